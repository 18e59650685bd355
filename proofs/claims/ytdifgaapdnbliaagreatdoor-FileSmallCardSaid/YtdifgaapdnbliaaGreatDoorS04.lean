/-
  Texts packed for a claim.
-/
import Derived.Test.YtdifgaapdnbliaaGreatDoorS00
import Derived.Test.YtdifgaapdnbliaaGreatDoorProg
import Derived.Test.YtdifgaapdnbliaaGreatDoorS03
set_option linter.all false
namespace Ab
open Go Go.RowKit
variable [Mode]
variable {P:Program}
def tg (t:List AV) (i:Nat):AV:=t.getD i .any
def ts (t:List AV) (i:Nat) (v:AV):List AV:=t.set i v
def te (args:List AV) (n:Nat):List AV:=args++List.replicate (n - args.length) .any
theorem Udx (t:List AV) (i j:Nat) (v:AV):tg (ts t i v) j=if i=j then (if i<t.length then v else .any) else tg t j:=by
 unfold tg ts
 simp only [List.getD_eq_getElem?_getD,List.getElem?_set]
 split
 ·rename_i e;subst e
  split<;>rfl
 ·rfl
theorem Yb9 (t:List AV) (i:Nat) (v:AV):(ts t i v).length=t.length:=by simp [ts]
theorem Uc9 {args:List AV} {n:Nat} (h:args.length≤n):(te args n).length=n:=by simp [te];omega
theorem Xct (args:List AV) (n j:Nat):tg (te args n) j=tg args j:=by
 unfold tg te
 simp only [List.getD_eq_getElem?_getD]
 rcases Qzn j args.length with h | h
 ·rw [Qzl h]
 ·rw [Qzr h,List.getElem?_eq_none h,List.getElem?_replicate]
  split<;>rfl
theorem Xel (j:Nat):tg [] j=.any:=(rfl)
theorem Zdp (v:AV) (l:List AV):tg (v::l) 0=v:=(rfl)
theorem Yeh (v:AV) (l:List AV) (j:Nat):tg (v::l) (j+1)=tg l j:=(rfl)
theorem Uew (t:List AV) (i:Nat):Va t (.tmp i)=tg t i:=(rfl)
theorem Wdc (t:List AV) (v:Value):Va t (.const v)=ofValue v:=(rfl)
theorem Wda (t:List AV) (g:Nat):Va t (.global g)=.gl g:=(rfl)
theorem Zeq (t:List AV) (f:FuncId):Va t (.func f)=.fn (.func f) [] []:=(rfl)
theorem Wdp (e:Env) (d:Tmp) (v:AV):e.put (some d) v={ e with t:=ts e.t d v }:=(rfl)
theorem Vdf (e:Env) (v:AV):e.put none v=e:=(rfl)
theorem Wdy (e:Env) (d:Tmp) (b:Bool):e.known (some d) b={ e with t:=ts e.t d (.bool b) }:=(rfl)
theorem Wee (e:Env) (b:Bool):e.known none b=e:=(rfl)
theorem Vc7 (e:Env) (d:Tmp) (b:Bool):e.op (.tmp d) b={ e with t:=ts e.t d (.bool b) }:=(rfl)
theorem Zc1 (e:Env) (v:Value) (b:Bool):e.op (.const v) b=e:=(rfl)
theorem Veu (ops:List Oper) (t:List AV):Wl ops t none=some none:=(rfl)
theorem Ydw (ops:List Oper) (t:List AV) (j:Nat) (w:Bool):Wl ops t (some (j,w))=match (ops[j]?).bind (·.dst) with
  | some d=>(match tg t d with
   | .bool b=>some (some (some d,b,w))
   | .tup _=>some (some (none,!w,w))
   | _=>none)
  | none=>none:=(rfl)
theorem Ydu (t:List AV) (σ:Za) (i:Nat):Uam P t σ (.tmp i)=some (tg t i):=(rfl)
theorem Wdb (t:List AV) (σ:Za) (a:Nat) (ty:TypeId):Uam P t σ (.cell a ty)=Zaa P ty (tg t a) σ:=(rfl)
theorem Ua {f:FuncId} {fn:Func} {c:Code} {args:List AV} {σ:Za} {R:AV→Za→Prop} (hf:P.funcs[f]? = some fn) (hb:fn.body=some c) (hen:Enters P f)
  (h:awp P none c (QFn P fn R) { t:=te args fn.ntmps } σ):ACalls P f args σ R:=Ybe hf hb hen (Yl c h)
theorem Wcx {f:FuncId} {fn:Func} {c:Code} {args:List AV} {σ:Za} {R:AV→Za→Prop} (hf:P.funcs[f]? = some fn) (hb:fn.body=some c) (hen:Enters P f)
  (h:awp P none c (QFn P fn R) { t:=te args fn.ntmps } σ):AEnter P f args σ R:=Vb9 hf hb hen (Yl c h)
theorem Vdt {rd:Option Nat} {c:Code} {Q:Exit→Env→Za→Prop} {env:Env} {σ:Za} (I:Env→Za→Prop) (μ:Env→Za→Nat) (h0:I env σ)
  (round:∀ env σ,I env σ→awp P rd c (Zc (fun env' σ'=>I env' σ'∧μ env' σ'<μ env σ) Q) env σ):ACode P rd (.loop c) Q env σ :=
 Ub1 I μ h0 fun env σ hi=>Yl c (round env σ hi)
theorem Vdh (X Y:Prop):Cs true X Y=X:=by simp [Cs]
theorem Wd2 (X Y:Prop):Cs false X Y=Y:=by simp [Cs]
theorem Cs.intro {b:Bool} {X Y:Prop} (h:b=true→X) (h':b=false→Y):Cs b X Y:=⟨h,h'⟩
theorem Zae (x y:Za) (k:Nat):(x++y)[x.length+k]? = y[k]?:=by
 rw [Qzr (by omega)];congr 1;omega
theorem Uea (x y:Za):(x++y)[x.length]? = y[0]?:=Zae x y 0
theorem Ubs (x y:Za) (k:Nat) (o:AObj):(x++y).set (x.length+k) o=x++y.set k o:=by
 rw [List.set_append_right _ _ (by omega)];congr 2;omega
theorem Ud9 (x y:Za) (o:AObj):(x++y).set x.length o=x++y.set 0 o:=Ubs x y 0 o
def apl (P:Program) (t:TypeId) (i:Nat):Option (Nat × Nat):=(Zav P t).bind fun f=>f i
omit [Mode] in
theorem Yo {t:TypeId} {l:List AV} (hz:tz P t=some (.agg l)) (hk:l.all AV.one=true) (hp:(Zav P t).isSome=true) (parts:List (Nat × AV)):Xk P t parts=(Wi (apl P t) l parts).map AV.agg:=by
 unfold Xk
 rw [hz]
 cases h:Zav P t with
 | none=>rw [h] at hp;cases hp
 | some pl =>
  have:apl P t=pl:=by funext i;simp [apl,h]
  simp only [AV.known,hk,if_true,this,AV.cells]
end Ab
namespace Ab
open Go Go.Proofs
abbrev tF (t:TypeId) (a:Option (Nat × Bool)) (b:Option TypeId) (c:Bool) (d:Option IntKind) (e:Nat) (f:Bool) (g h:Nat):Prop:=tsa Tryz.prog t=a∧Xg Tryz.prog t=b∧Xj Tryz.prog t=c∧Xp Tryz.prog t=d∧Yai Tryz.prog t=e∧Zar Tryz.prog t=f∧Vm Tryz.prog t=g∧tby Tryz.prog t=h
abbrev tZ (t:TypeId) (z:AV):Prop:=tz Tryz.prog t=some z
abbrev tK (t:TypeId) (k:Nat):Prop:=tzk Tryz.prog t k=true
abbrev tD (t:TypeId) (j a b:Nat):Prop:=Var Tryz.prog t j=some (a,b)
abbrev tA (t:TypeId) (j a b:Nat):Prop:=apl Tryz.prog t j=some (a,b)
theorem t8 {A B C D E F G H:Type} {a a1:A} {b b1:B} {c c1:C} {d d1:D} {e e1:E} {f f1:F} {g g1:G} {h h1:H} (x:(a,b,c,d,e,f,g,h)=(a1,b1,c1,d1,e1,f1,g1,h1)):a=a1∧b=b1∧c=c1∧d=d1∧e=e1∧f=f1∧g=g1∧h=h1:=by simpa only [Prod.mk.injEq] using x
theorem tf {t:TypeId} {a:Option (Nat × Bool)} {b:Option TypeId} {c:Bool} {d:Option IntKind} {e:Nat} {f:Bool} {g h:Nat} (x:(tsa Tryz.prog t,Xg Tryz.prog t,Xj Tryz.prog t,Xp Tryz.prog t,Yai Tryz.prog t,Zar Tryz.prog t,Vm Tryz.prog t,tby Tryz.prog t)=(a,b,c,d,e,f,g,h)):tF t a b c d e f g h:=t8 x
theorem fZ {t:TypeId} {z:AV} (x:tz Tryz.prog t=some z):tZ t z:=x
theorem fK {t:TypeId} {k:Nat} (x:tzk Tryz.prog t k=true):tK t k:=x
theorem fD {t:TypeId} {j a b:Nat} (x:Var Tryz.prog t j=some (a,b)):tD t j a b:=x
theorem fA {t:TypeId} {j a b:Nat} (x:apl Tryz.prog t j=some (a,b)):tA t j a b:=x
@[simp] theorem p0:tF 0 (some (1,false)) none false none 0 false 0 0:=tf (by kernel_rfl)
@[simp] theorem p1:tF 1 (some (1,false)) none false none 0 false 4 8∧tZ 1 .nilf∧tK 1 1:=⟨tf (by kernel_rfl),fZ (by kernel_rfl),fK (by kernel_rfl)⟩
@[simp] theorem p2:tF 2 (some (1,false)) none false (some .i64) 1 false 0 8∧tZ 2 (.int .i64 0)∧tK 2 1:=⟨tf (by kernel_rfl),fZ (by kernel_rfl),fK (by kernel_rfl)⟩
@[simp] theorem p3:tF 3 (some (1,false)) none false (some .i64) 1 false 0 8∧tZ 3 (.int .i64 0)∧tK 3 1:=⟨tf (by kernel_rfl),fZ (by kernel_rfl),fK (by kernel_rfl)⟩
@[simp] theorem p4:tF 4 (some (1,false)) none false none 2 true 0 1∧tZ 4 (.bool false)∧tK 4 1:=⟨tf (by kernel_rfl),fZ (by kernel_rfl),fK (by kernel_rfl)⟩
@[simp] theorem p5:tF 5 (some (1,false)) none false (some .u8) 1 false 0 1∧tZ 5 (.int .u8 0)∧tK 5 1:=⟨tf (by kernel_rfl),fZ (by kernel_rfl),fK (by kernel_rfl)⟩
@[simp] theorem p6:tF 6 (some (1,false)) none false (some .u8) 1 false 0 1∧tZ 6 (.int .u8 0)∧tK 6 1:=⟨tf (by kernel_rfl),fZ (by kernel_rfl),fK (by kernel_rfl)⟩
@[simp] theorem p8:tF 8 (some (4,true)) none false none 0 false 0 24∧tZ 8 (.agg [.int .i64 0,.int .i64 0,.bool false,.int .u8 0])∧tK 8 4∧tD 8 0 0 2∧tA 8 0 0 1∧tD 8 1 1 3∧tA 8 1 1 1∧tD 8 2 2 4∧tA 8 2 2 1∧tD 8 3 3 6∧tA 8 3 3 1:=⟨tf (by kernel_rfl),fZ (by kernel_rfl),fK (by kernel_rfl),fD (by kernel_rfl),fA (by kernel_rfl),fD (by kernel_rfl),fA (by kernel_rfl),fD (by kernel_rfl),fA (by kernel_rfl),fD (by kernel_rfl),fA (by kernel_rfl)⟩
@[simp] theorem p9:tF 9 (some (1,false)) none true none 3 false 0 16∧tZ 9 (.str [])∧tK 9 1:=⟨tf (by kernel_rfl),fZ (by kernel_rfl),fK (by kernel_rfl)⟩
@[simp] theorem p15:tF 15 (some (1,false)) none false none 0 false 1 8∧tZ 15 .nilp∧tK 15 1:=⟨tf (by kernel_rfl),fZ (by kernel_rfl),fK (by kernel_rfl)⟩
@[simp] theorem p16:tF 16 (some (1,false)) none false none 0 false 1 8∧tZ 16 .nilp∧tK 16 1:=⟨tf (by kernel_rfl),fZ (by kernel_rfl),fK (by kernel_rfl)⟩
@[simp] theorem p20:tF 20 (some (1,false)) none false none 0 false 5 16∧tZ 20 .nili∧tK 20 1:=⟨tf (by kernel_rfl),fZ (by kernel_rfl),fK (by kernel_rfl)⟩
@[simp] theorem p21:tF 21 (some (1,false)) none false (some .i32) 1 false 0 4∧tZ 21 (.int .i32 0)∧tK 21 1:=⟨tf (by kernel_rfl),fZ (by kernel_rfl),fK (by kernel_rfl)⟩
@[simp] theorem p23:tF 23 (some (1,false)) (some 59) false none 0 false 2 24∧tZ 23 .nils∧tK 23 1:=⟨tf (by kernel_rfl),fZ (by kernel_rfl),fK (by kernel_rfl)⟩
@[simp] theorem p24:tF 24 (some (1,false)) none false (some .i64) 1 false 0 8∧tZ 24 (.int .i64 0)∧tK 24 1:=⟨tf (by kernel_rfl),fZ (by kernel_rfl),fK (by kernel_rfl)⟩
@[simp] theorem p25:tF 25 (some (1,false)) none false none 0 false 0 0:=tf (by kernel_rfl)
@[simp] theorem p27:tF 27 (some (1,false)) (some 96) false none 0 false 2 24∧tZ 27 .nils∧tK 27 1:=⟨tf (by kernel_rfl),fZ (by kernel_rfl),fK (by kernel_rfl)⟩
@[simp] theorem p28:tF 28 (some (1,false)) none false none 0 false 0 0:=tf (by kernel_rfl)
@[simp] theorem p32:tF 32 (some (1,false)) none false none 0 false 4 8∧tZ 32 .nilf∧tK 32 1:=⟨tf (by kernel_rfl),fZ (by kernel_rfl),fK (by kernel_rfl)⟩
@[simp] theorem p33:tF 33 (some (1,false)) none false none 0 false 0 0:=tf (by kernel_rfl)
@[simp] theorem p35:tF 35 (some (1,false)) none false none 0 false 0 0:=tf (by kernel_rfl)
@[simp] theorem p37:tF 37 (some (1,false)) (some 4) false none 0 false 2 24∧tZ 37 .nils∧tK 37 1:=⟨tf (by kernel_rfl),fZ (by kernel_rfl),fK (by kernel_rfl)⟩
@[simp] theorem p41:tF 41 (some (1,false)) (some 23) false none 0 false 2 24∧tZ 41 .nils∧tK 41 1:=⟨tf (by kernel_rfl),fZ (by kernel_rfl),fK (by kernel_rfl)⟩
@[simp] theorem p44:tF 44 (some (1,false)) (some 57) false none 0 false 2 24∧tZ 44 .nils∧tK 44 1:=⟨tf (by kernel_rfl),fZ (by kernel_rfl),fK (by kernel_rfl)⟩
@[simp] theorem p45:tF 45 (some (1,false)) none false none 0 false 0 0:=tf (by kernel_rfl)
@[simp] theorem p47:tF 47 (some (1,false)) (some 54) false none 0 false 2 24∧tZ 47 .nils∧tK 47 1:=⟨tf (by kernel_rfl),fZ (by kernel_rfl),fK (by kernel_rfl)⟩
@[simp] theorem p48:tF 48 (some (1,false)) none false none 0 false 0 0:=tf (by kernel_rfl)
@[simp] theorem p50:tF 50 (some (1,false)) none false none 0 false 0 0:=tf (by kernel_rfl)
@[simp] theorem p52:tF 52 (some (1,false)) none false (some .i64) 1 false 0 8∧tZ 52 (.int .i64 0)∧tK 52 1:=⟨tf (by kernel_rfl),fZ (by kernel_rfl),fK (by kernel_rfl)⟩
@[simp] theorem p54:tF 54 (some (2,true)) none false none 0 false 0 16∧tZ 54 (.agg [.int .i64 0,.int .i64 0])∧tK 54 2∧tD 54 0 0 52∧tA 54 0 0 1∧tD 54 1 1 3∧tA 54 1 1 1:=⟨tf (by kernel_rfl),fZ (by kernel_rfl),fK (by kernel_rfl),fD (by kernel_rfl),fA (by kernel_rfl),fD (by kernel_rfl),fA (by kernel_rfl)⟩
@[simp] theorem p55:tF 55 (some (1,false)) (some 9) false none 0 false 2 24∧tZ 55 .nils∧tK 55 1:=⟨tf (by kernel_rfl),fZ (by kernel_rfl),fK (by kernel_rfl)⟩
@[simp] theorem p57:tF 57 (some (6,true)) none false none 0 false 0 72∧tZ 57 (.agg [.int .i64 0,.int .i64 0,.bool false,.bool false,.nils,.nils])∧tK 57 6∧tD 57 0 0 3∧tA 57 0 0 1∧tD 57 1 1 3∧tA 57 1 1 1∧tD 57 2 2 4∧tA 57 2 2 1∧tD 57 3 3 4∧tA 57 3 3 1∧tD 57 4 4 55∧tA 57 4 4 1∧tD 57 5 5 55∧tA 57 5 5 1:=⟨tf (by kernel_rfl),fZ (by kernel_rfl),fK (by kernel_rfl),fD (by kernel_rfl),fA (by kernel_rfl),fD (by kernel_rfl),fA (by kernel_rfl),fD (by kernel_rfl),fA (by kernel_rfl),fD (by kernel_rfl),fA (by kernel_rfl),fD (by kernel_rfl),fA (by kernel_rfl),fD (by kernel_rfl),fA (by kernel_rfl)⟩
@[simp] theorem p59:tF 59 (some (3,true)) none false none 0 false 0 40∧tZ 59 (.agg [.int .i64 0,.int .i64 0,.nils])∧tK 59 3∧tD 59 0 0 52∧tA 59 0 0 1∧tD 59 1 1 3∧tA 59 1 1 1∧tD 59 2 2 55∧tA 59 2 2 1:=⟨tf (by kernel_rfl),fZ (by kernel_rfl),fK (by kernel_rfl),fD (by kernel_rfl),fA (by kernel_rfl),fD (by kernel_rfl),fA (by kernel_rfl),fD (by kernel_rfl),fA (by kernel_rfl)⟩
@[simp] theorem p62:tF 62 (some (1,false)) (some 74) false none 0 false 2 24∧tZ 62 .nils∧tK 62 1:=⟨tf (by kernel_rfl),fZ (by kernel_rfl),fK (by kernel_rfl)⟩
@[simp] theorem p67:tF 67 (some (1,false)) none false none 0 false 0 0:=tf (by kernel_rfl)
@[simp] theorem p69:tF 69 (some (1,false)) none false none 0 false 0 0:=tf (by kernel_rfl)
@[simp] theorem p74:tF 74 (some (6,true)) none false none 0 false 0 72∧tZ 74 (.agg [.int .i64 0,.int .i64 0,.bool false,.bool false,.nils,.nils])∧tK 74 6∧tD 74 0 0 52∧tA 74 0 0 1∧tD 74 1 1 3∧tA 74 1 1 1∧tD 74 2 2 4∧tA 74 2 2 1∧tD 74 3 3 4∧tA 74 3 3 1∧tD 74 4 4 55∧tA 74 4 4 1∧tD 74 5 5 55∧tA 74 5 5 1:=⟨tf (by kernel_rfl),fZ (by kernel_rfl),fK (by kernel_rfl),fD (by kernel_rfl),fA (by kernel_rfl),fD (by kernel_rfl),fA (by kernel_rfl),fD (by kernel_rfl),fA (by kernel_rfl),fD (by kernel_rfl),fA (by kernel_rfl),fD (by kernel_rfl),fA (by kernel_rfl),fD (by kernel_rfl),fA (by kernel_rfl)⟩
@[simp] theorem p75:tF 75 (some (1,false)) (some 5) false none 0 false 2 24∧tZ 75 .nils∧tK 75 1:=⟨tf (by kernel_rfl),fZ (by kernel_rfl),fK (by kernel_rfl)⟩
@[simp] theorem p76:tF 76 (some (1,false)) none false (some .u16) 1 false 0 2∧tZ 76 (.int .u16 0)∧tK 76 1:=⟨tf (by kernel_rfl),fZ (by kernel_rfl),fK (by kernel_rfl)⟩
@[simp] theorem p78:tF 78 (some (1,false)) none false none 0 false 1 8∧tZ 78 .nilp∧tK 78 1:=⟨tf (by kernel_rfl),fZ (by kernel_rfl),fK (by kernel_rfl)⟩
@[simp] theorem p81:tF 81 (some (1,false)) (some 75) false none 0 false 2 24∧tZ 81 .nils∧tK 81 1:=⟨tf (by kernel_rfl),fZ (by kernel_rfl),fK (by kernel_rfl)⟩
@[simp] theorem p91:tF 91 (some (1,false)) none false (some .u64) 1 false 0 8∧tZ 91 (.int .u64 0)∧tK 91 1:=⟨tf (by kernel_rfl),fZ (by kernel_rfl),fK (by kernel_rfl)⟩
@[simp] theorem p96:tF 96 (some (3,true)) none false none 0 false 0 40∧tZ 96 (.agg [.int .i64 0,.int .i64 0,.nils])∧tK 96 3∧tD 96 0 0 3∧tA 96 0 0 1∧tD 96 1 1 3∧tA 96 1 1 1∧tD 96 2 2 55∧tA 96 2 2 1:=⟨tf (by kernel_rfl),fZ (by kernel_rfl),fK (by kernel_rfl),fD (by kernel_rfl),fA (by kernel_rfl),fD (by kernel_rfl),fA (by kernel_rfl),fD (by kernel_rfl),fA (by kernel_rfl)⟩
@[simp] theorem p98:tF 98 (some (1,false)) none false none 0 false 0 0:=tf (by kernel_rfl)
@[simp] theorem Xff:tF 100 (some (1,false)) none false none 0 false 0 0:=tf (by kernel_rfl)
@[simp] theorem Ufo:tF 104 (some (1,false)) none false none 0 false 0 0:=tf (by kernel_rfl)
@[simp] theorem Ufc:tF 113 (some (1,false)) none false none 0 false 4 8∧tZ 113 .nilf∧tK 113 1:=⟨tf (by kernel_rfl),fZ (by kernel_rfl),fK (by kernel_rfl)⟩
@[simp] theorem Vfj:tF 121 (some (1,false)) (some 62) false none 0 false 2 24∧tZ 121 .nils∧tK 121 1:=⟨tf (by kernel_rfl),fZ (by kernel_rfl),fK (by kernel_rfl)⟩
@[simp] theorem Zfo:tF 124 (some (1,false)) (some 3) false none 0 false 2 24∧tZ 124 .nils∧tK 124 1:=⟨tf (by kernel_rfl),fZ (by kernel_rfl),fK (by kernel_rfl)⟩
@[simp] theorem Zfc:tF 126 (some (1,false)) none false none 0 false 1 8∧tZ 126 .nilp∧tK 126 1:=⟨tf (by kernel_rfl),fZ (by kernel_rfl),fK (by kernel_rfl)⟩
@[simp] theorem Wfn:tF 127 (some (1,false)) (some 126) false none 0 false 2 24∧tZ 127 .nils∧tK 127 1:=⟨tf (by kernel_rfl),fZ (by kernel_rfl),fK (by kernel_rfl)⟩
@[simp] theorem Yfg:tF 130 (some (1,false)) none false none 0 false 0 0:=tf (by kernel_rfl)
@[simp] theorem Wfc:tF 132 (some (1,false)) none false none 0 false 0 0:=tf (by kernel_rfl)
@[simp] theorem Ze9:tF 136 (some (1,false)) none false none 0 false 0 0:=tf (by kernel_rfl)
@[simp] theorem Yfk:tF 140 (some (2,true)) none false none 0 false 0 16∧tZ 140 (.agg [.int .i64 0,.int .i64 0])∧tK 140 2:=⟨tf (by kernel_rfl),fZ (by kernel_rfl),fK (by kernel_rfl)⟩
@[simp] theorem Vfl:tF 143 (some (1,false)) none false none 0 false 0 0:=tf (by kernel_rfl)
@[simp] theorem Ufi:tF 146 (some (1,false)) none false none 0 false 0 0:=tf (by kernel_rfl)
@[simp] theorem Yfm:tF 153 (some (1,false)) (some 158) false none 0 false 2 24∧tZ 153 .nils∧tK 153 1:=⟨tf (by kernel_rfl),fZ (by kernel_rfl),fK (by kernel_rfl)⟩
@[simp] theorem Ve7:tF 154 (some (1,false)) none false none 0 false 0 0:=tf (by kernel_rfl)
@[simp] theorem Uff:tF 156 (some (1,false)) none false none 0 false 0 0:=tf (by kernel_rfl)
@[simp] theorem Yfn:tF 158 (some (1,false)) none false none 0 false 1 8∧tZ 158 .nilp∧tK 158 1:=⟨tf (by kernel_rfl),fZ (by kernel_rfl),fK (by kernel_rfl)⟩
@[simp] theorem We6:tF 159 (some (1,false)) none false none 0 false 4 8∧tZ 159 .nilf∧tK 159 1:=⟨tf (by kernel_rfl),fZ (by kernel_rfl),fK (by kernel_rfl)⟩
@[simp] theorem Xe7:tF 163 (some (1,false)) none false none 0 false 3 8∧tZ 163 .nilm∧tK 163 1:=⟨tf (by kernel_rfl),fZ (by kernel_rfl),fK (by kernel_rfl)⟩
@[simp] theorem Ye8:tF 164 (some (1,false)) none false none 0 false 0 0:=tf (by kernel_rfl)
@[simp] theorem Yfb:tF 167 (some (2,true)) none false none 0 false 0 32∧tZ 167 (.agg [.bool false,.nils])∧tK 167 2∧tD 167 0 0 4∧tA 167 0 0 1∧tD 167 1 1 55∧tA 167 1 1 1:=⟨tf (by kernel_rfl),fZ (by kernel_rfl),fK (by kernel_rfl),fD (by kernel_rfl),fA (by kernel_rfl),fD (by kernel_rfl),fA (by kernel_rfl)⟩
@[simp] theorem Ufe:tF 171 (some (1,false)) none false none 0 false 4 8∧tZ 171 .nilf∧tK 171 1:=⟨tf (by kernel_rfl),fZ (by kernel_rfl),fK (by kernel_rfl)⟩
@[simp] theorem Vfo:tF 174 (some (1,false)) none false (some .u32) 1 false 0 4∧tZ 174 (.int .u32 0)∧tK 174 1:=⟨tf (by kernel_rfl),fZ (by kernel_rfl),fK (by kernel_rfl)⟩
@[simp] theorem Vff:tF 176 (some (3,true)) none false none 0 false 0 40∧tZ 176 (.agg [.nils,.int .i64 0,.int .u32 0])∧tK 176 3∧tD 176 0 0 75∧tA 176 0 0 1∧tD 176 1 1 3∧tA 176 1 1 1∧tD 176 2 2 174∧tA 176 2 2 1:=⟨tf (by kernel_rfl),fZ (by kernel_rfl),fK (by kernel_rfl),fD (by kernel_rfl),fA (by kernel_rfl),fD (by kernel_rfl),fA (by kernel_rfl),fD (by kernel_rfl),fA (by kernel_rfl)⟩
@[simp] theorem Ye9:tF 177 (some (1,false)) none false none 0 false 1 8∧tZ 177 .nilp∧tK 177 1:=⟨tf (by kernel_rfl),fZ (by kernel_rfl),fK (by kernel_rfl)⟩
@[simp] theorem Yfh:tF 179 (some (2,true)) none false none 0 false 0 32∧tZ 179 (.agg [.nilp,.nils])∧tK 179 2∧tD 179 0 0 177∧tA 179 0 0 1∧tD 179 1 1 75∧tA 179 1 1 1:=⟨tf (by kernel_rfl),fZ (by kernel_rfl),fK (by kernel_rfl),fD (by kernel_rfl),fA (by kernel_rfl),fD (by kernel_rfl),fA (by kernel_rfl)⟩
@[simp] theorem Ve6:tF 181 (some (1,false)) none false none 0 false 5 16∧tZ 181 .nili∧tK 181 1:=⟨tf (by kernel_rfl),fZ (by kernel_rfl),fK (by kernel_rfl)⟩
@[simp] theorem Zfp:tF 182 (some (1,false)) none false none 0 false 0 0:=tf (by kernel_rfl)
@[simp] theorem Vfn:tF 187 (some (1,false)) none false none 0 false 0 0:=tf (by kernel_rfl)
@[simp] theorem Ufl:tF 189 (some (1,false)) none false none 0 false 4 8∧tZ 189 .nilf∧tK 189 1:=⟨tf (by kernel_rfl),fZ (by kernel_rfl),fK (by kernel_rfl)⟩
@[simp] theorem Yff:tF 200 (some (1,false)) none false none 0 false 0 0:=tf (by kernel_rfl)
@[simp] theorem Zfk:tF 203 (some (1,false)) none false none 0 false 4 8∧tZ 203 .nilf∧tK 203 1:=⟨tf (by kernel_rfl),fZ (by kernel_rfl),fK (by kernel_rfl)⟩
@[simp] theorem Zfa:tF 204 (some (1,false)) none false none 0 false 4 8∧tZ 204 .nilf∧tK 204 1:=⟨tf (by kernel_rfl),fZ (by kernel_rfl),fK (by kernel_rfl)⟩
@[simp] theorem Ufk:tF 205 (some (1,false)) none false none 0 false 4 8∧tZ 205 .nilf∧tK 205 1:=⟨tf (by kernel_rfl),fZ (by kernel_rfl),fK (by kernel_rfl)⟩
@[simp] theorem Ye6:tF 210 (some (2,true)) none false none 0 false 0 16∧tZ 210 (.agg [.nilf,.int .i64 0])∧tK 210 2∧tD 210 0 0 32∧tA 210 0 0 1∧tD 210 1 1 24∧tA 210 1 1 1:=⟨tf (by kernel_rfl),fZ (by kernel_rfl),fK (by kernel_rfl),fD (by kernel_rfl),fA (by kernel_rfl),fD (by kernel_rfl),fA (by kernel_rfl)⟩
@[simp] theorem Xfi:tF 212 (some (1,false)) (some 210) false none 0 false 2 24∧tZ 212 .nils∧tK 212 1:=⟨tf (by kernel_rfl),fZ (by kernel_rfl),fK (by kernel_rfl)⟩
@[simp] theorem Xfo:tF 217 (some (1,false)) none false none 0 false 0 0:=tf (by kernel_rfl)
@[simp] theorem Yfc:tF 222 (some (1,false)) none false none 0 false 1 8∧tZ 222 .nilp∧tK 222 1:=⟨tf (by kernel_rfl),fZ (by kernel_rfl),fK (by kernel_rfl)⟩
@[simp] theorem Ye7:tF 226 (some (1,true)) none false none 0 false 0 24∧tZ 226 (.agg [.nils])∧tK 226 1∧tD 226 0 0 23∧tA 226 0 0 1:=⟨tf (by kernel_rfl),fZ (by kernel_rfl),fK (by kernel_rfl),fD (by kernel_rfl),fA (by kernel_rfl)⟩
@[simp] theorem Zfb:tF 227 (some (1,false)) none false none 0 false 3 8∧tZ 227 .nilm∧tK 227 1:=⟨tf (by kernel_rfl),fZ (by kernel_rfl),fK (by kernel_rfl)⟩
@[simp] theorem Xfg:tF 229 (some (2,true)) none false none 0 false 0 32∧tZ 229 (.agg [.nils,.nilm])∧tK 229 2∧tD 229 0 0 226∧tA 229 0 0 1∧tD 229 1 1 227∧tA 229 1 1 1:=⟨tf (by kernel_rfl),fZ (by kernel_rfl),fK (by kernel_rfl),fD (by kernel_rfl),fA (by kernel_rfl),fD (by kernel_rfl),fA (by kernel_rfl)⟩
@[simp] theorem Wfe:tF 231 (some (1,false)) none false none 0 false 4 8∧tZ 231 .nilf∧tK 231 1:=⟨tf (by kernel_rfl),fZ (by kernel_rfl),fK (by kernel_rfl)⟩
@[simp] theorem Vfe:tF 233 (some (1,false)) none false none 0 false 4 8∧tZ 233 .nilf∧tK 233 1:=⟨tf (by kernel_rfl),fZ (by kernel_rfl),fK (by kernel_rfl)⟩
@[simp] theorem Ze7:tF 235 (some (1,false)) none false none 0 false 4 8∧tZ 235 .nilf∧tK 235 1:=⟨tf (by kernel_rfl),fZ (by kernel_rfl),fK (by kernel_rfl)⟩
@[simp] theorem Vfc:tF 237 (some (1,false)) (some 55) false none 0 false 2 24∧tZ 237 .nils∧tK 237 1:=⟨tf (by kernel_rfl),fZ (by kernel_rfl),fK (by kernel_rfl)⟩
@[simp] theorem Wfg:tF 238 (some (1,false)) none false none 0 false 0 0:=tf (by kernel_rfl)
@[simp] theorem Yfj:tF 240 (some (1,false)) none false (some .u64) 1 false 0 8∧tZ 240 (.int .u64 0)∧tK 240 1:=⟨tf (by kernel_rfl),fZ (by kernel_rfl),fK (by kernel_rfl)⟩
@[simp] theorem Ufn:tF 241 (some (1,false)) none false none 0 false 0 0:=tf (by kernel_rfl)
@[simp] theorem Xfl:tF 243 (some (1,false)) none false none 0 false 4 8∧tZ 243 .nilf∧tK 243 1:=⟨tf (by kernel_rfl),fZ (by kernel_rfl),fK (by kernel_rfl)⟩
@[simp] theorem Zff:tF 244 (some (1,false)) none false none 0 false 4 8∧tZ 244 .nilf∧tK 244 1:=⟨tf (by kernel_rfl),fZ (by kernel_rfl),fK (by kernel_rfl)⟩
@[simp] theorem Vfg:tF 246 (some (1,true)) none false none 0 false 0 16∧tZ 246 (.agg [.str []])∧tK 246 1∧tD 246 0 0 9∧tA 246 0 0 1:=⟨tf (by kernel_rfl),fZ (by kernel_rfl),fK (by kernel_rfl),fD (by kernel_rfl),fA (by kernel_rfl)⟩
@[simp] theorem Zfj:tF 251 (some (1,false)) none false (some .i64) 1 false 0 8∧tZ 251 (.int .i64 0)∧tK 251 1:=⟨tf (by kernel_rfl),fZ (by kernel_rfl),fK (by kernel_rfl)⟩
@[simp] theorem Ufm:tF 252 (some (1,false)) none false none 0 false 0 0:=tf (by kernel_rfl)
@[simp] theorem Vfk:tF 259 (some (1,false)) none false none 0 false 0 8∧tZ 259 .nilp∧tK 259 1:=⟨tf (by kernel_rfl),fZ (by kernel_rfl),fK (by kernel_rfl)⟩
@[simp] theorem Xfp:tF 261 (some (1,false)) none false none 0 false 0 0:=tf (by kernel_rfl)
@[simp] theorem Zfm:tF 271 (some (1,false)) none false (some .u64) 1 false 0 8∧tZ 271 (.int .u64 0)∧tK 271 1:=⟨tf (by kernel_rfl),fZ (by kernel_rfl),fK (by kernel_rfl)⟩
@[simp] theorem Zfe:tF 282 (some (1,false)) none false (some .i64) 1 false 0 8∧tZ 282 (.int .i64 0)∧tK 282 1:=⟨tf (by kernel_rfl),fZ (by kernel_rfl),fK (by kernel_rfl)⟩
@[simp] theorem Ve9:tF 283 (some (1,false)) none false none 0 false 0 0:=tf (by kernel_rfl)
@[simp] theorem Xfd:tF 285 (some (1,false)) none false none 0 false 1 8∧tZ 285 .nilp∧tK 285 1:=⟨tf (by kernel_rfl),fZ (by kernel_rfl),fK (by kernel_rfl)⟩
@[simp] theorem Wfk:tF 289 (some (24,true)) none false none 0 false 0 24∧tZ 289 (.agg [.int .u8 0,.int .u8 0,.int .u8 0,.int .u8 0,.int .u8 0,.int .u8 0,.int .u8 0,.int .u8 0,.int .u8 0,.int .u8 0,.int .u8 0,.int .u8 0,.int .u8 0,.int .u8 0,.int .u8 0,.int .u8 0,.int .u8 0,.int .u8 0,.int .u8 0,.int .u8 0,.int .u8 0,.int .u8 0,.int .u8 0,.int .u8 0])∧tK 289 24:=⟨tf (by kernel_rfl),fZ (by kernel_rfl),fK (by kernel_rfl)⟩
@[simp] theorem Xe9:tF 291 (some (1,false)) none false none 0 false 0 0:=tf (by kernel_rfl)
@[simp] theorem Vfi:tF 293 (some (1,false)) none false none 0 false 1 8∧tZ 293 .nilp∧tK 293 1:=⟨tf (by kernel_rfl),fZ (by kernel_rfl),fK (by kernel_rfl)⟩
@[simp] theorem Xfm:tF 295 (some (256,true)) none false none 0 false 0 256:=tf (by kernel_rfl)
@[simp] theorem Yfl:tF 297 (some (2,true)) none false none 0 false 0 2∧tZ 297 (.agg [.int .u8 0,.int .u8 0])∧tK 297 2∧tD 297 0 0 5∧tA 297 0 0 1∧tD 297 1 1 5∧tA 297 1 1 1:=⟨tf (by kernel_rfl),fZ (by kernel_rfl),fK (by kernel_rfl),fD (by kernel_rfl),fA (by kernel_rfl),fD (by kernel_rfl),fA (by kernel_rfl)⟩
@[simp] theorem Xfn:tF 298 (some (32,true)) none false none 0 false 0 32∧tZ 298 (.agg [.int .u8 0,.int .u8 0,.int .u8 0,.int .u8 0,.int .u8 0,.int .u8 0,.int .u8 0,.int .u8 0,.int .u8 0,.int .u8 0,.int .u8 0,.int .u8 0,.int .u8 0,.int .u8 0,.int .u8 0,.int .u8 0,.int .u8 0,.int .u8 0,.int .u8 0,.int .u8 0,.int .u8 0,.int .u8 0,.int .u8 0,.int .u8 0,.int .u8 0,.int .u8 0,.int .u8 0,.int .u8 0,.int .u8 0,.int .u8 0,.int .u8 0,.int .u8 0])∧tK 298 32:=⟨tf (by kernel_rfl),fZ (by kernel_rfl),fK (by kernel_rfl)⟩
@[simp] theorem Zfn:tF 302 (some (1,false)) none false none 0 false 0 0:=tf (by kernel_rfl)
@[simp] theorem Wff:tF 305 (some (3,true)) none false none 0 false 0 48∧tZ 305 (.agg [.str [],.str [],.nili])∧tK 305 3∧tD 305 0 0 9∧tA 305 0 0 1∧tD 305 1 1 9∧tA 305 1 1 1∧tD 305 2 2 181∧tA 305 2 2 1:=⟨tf (by kernel_rfl),fZ (by kernel_rfl),fK (by kernel_rfl),fD (by kernel_rfl),fA (by kernel_rfl),fD (by kernel_rfl),fA (by kernel_rfl),fD (by kernel_rfl),fA (by kernel_rfl)⟩
@[simp] theorem Ue7:tF 308 (some (20,true)) none false none 0 false 0 160∧tZ 308 (.agg [.int .u64 0,.int .u64 0,.int .u64 0,.int .u64 0,.int .u64 0,.int .u64 0,.int .u64 0,.int .u64 0,.int .u64 0,.int .u64 0,.int .u64 0,.int .u64 0,.int .u64 0,.int .u64 0,.int .u64 0,.int .u64 0,.int .u64 0,.int .u64 0,.int .u64 0,.int .u64 0])∧tK 308 20:=⟨tf (by kernel_rfl),fZ (by kernel_rfl),fK (by kernel_rfl)⟩
@[simp] theorem Yfd:tF 309 (some (65,true)) none false none 0 false 0 65:=tf (by kernel_rfl)
@[simp] theorem Xe8:tF 312 (some (1,false)) none false none 0 false 1 8∧tZ 312 .nilp∧tK 312 1:=⟨tf (by kernel_rfl),fZ (by kernel_rfl),fK (by kernel_rfl)⟩
@[simp] theorem Wfj:tF 314 (some (1,true)) none false none 0 false 0 16∧tZ 314 (.agg [.str []])∧tK 314 1∧tD 314 0 0 9∧tA 314 0 0 1:=⟨tf (by kernel_rfl),fZ (by kernel_rfl),fK (by kernel_rfl),fD (by kernel_rfl),fA (by kernel_rfl)⟩
@[simp] theorem Xfa:tF 315 (some (32,true)) none false none 0 false 0 32∧tZ 315 (.agg [.int .u8 0,.int .u8 0,.int .u8 0,.int .u8 0,.int .u8 0,.int .u8 0,.int .u8 0,.int .u8 0,.int .u8 0,.int .u8 0,.int .u8 0,.int .u8 0,.int .u8 0,.int .u8 0,.int .u8 0,.int .u8 0,.int .u8 0,.int .u8 0,.int .u8 0,.int .u8 0,.int .u8 0,.int .u8 0,.int .u8 0,.int .u8 0,.int .u8 0,.int .u8 0,.int .u8 0,.int .u8 0,.int .u8 0,.int .u8 0,.int .u8 0,.int .u8 0])∧tK 315 32:=⟨tf (by kernel_rfl),fZ (by kernel_rfl),fK (by kernel_rfl)⟩
@[simp] theorem Ue9:tF 316 (some (64,true)) none false none 0 false 0 64∧tZ 316 (.agg [.int .u8 0,.int .u8 0,.int .u8 0,.int .u8 0,.int .u8 0,.int .u8 0,.int .u8 0,.int .u8 0,.int .u8 0,.int .u8 0,.int .u8 0,.int .u8 0,.int .u8 0,.int .u8 0,.int .u8 0,.int .u8 0,.int .u8 0,.int .u8 0,.int .u8 0,.int .u8 0,.int .u8 0,.int .u8 0,.int .u8 0,.int .u8 0,.int .u8 0,.int .u8 0,.int .u8 0,.int .u8 0,.int .u8 0,.int .u8 0,.int .u8 0,.int .u8 0,.int .u8 0,.int .u8 0,.int .u8 0,.int .u8 0,.int .u8 0,.int .u8 0,.int .u8 0,.int .u8 0,.int .u8 0,.int .u8 0,.int .u8 0,.int .u8 0,.int .u8 0,.int .u8 0,.int .u8 0,.int .u8 0,.int .u8 0,.int .u8 0,.int .u8 0,.int .u8 0,.int .u8 0,.int .u8 0,.int .u8 0,.int .u8 0,.int .u8 0,.int .u8 0,.int .u8 0,.int .u8 0,.int .u8 0,.int .u8 0,.int .u8 0,.int .u8 0])∧tK 316 64:=⟨tf (by kernel_rfl),fZ (by kernel_rfl),fK (by kernel_rfl)⟩
@[simp] theorem Vfh:tF 318 (some (4,true)) none false none 0 false 0 40∧tZ 318 (.agg [.nilp,.nilp,.nilp,.str []])∧tK 318 4∧tD 318 0 0 17∧tA 318 0 0 1∧tD 318 1 1 17∧tA 318 1 1 1∧tD 318 2 2 17∧tA 318 2 2 1∧tD 318 3 3 9∧tA 318 3 3 1:=⟨tf (by kernel_rfl),fZ (by kernel_rfl),fK (by kernel_rfl),fD (by kernel_rfl),fA (by kernel_rfl),fD (by kernel_rfl),fA (by kernel_rfl),fD (by kernel_rfl),fA (by kernel_rfl),fD (by kernel_rfl),fA (by kernel_rfl)⟩
@[simp] theorem Ufa:tF 321 (some (0,true)) none false none 0 false 0 0∧tD 321 0 0 319∧tA 321 0 0 0:=⟨tf (by kernel_rfl),fD (by kernel_rfl),fA (by kernel_rfl)⟩
theorem Zew:Vu Tryz.prog 8=some [1,1,2,1]:=by kernel_rfl
theorem Xe1 (parts:List (Nat × AV)):Xk Tryz.prog 8 parts=(Wi (apl Tryz.prog 8) [.int .i64 0,.int .i64 0,.bool false,.int .u8 0] parts).map AV.agg:=Yo (by kernel_rfl) (by decide) (by kernel_rfl) parts
theorem Uc0:Vu Tryz.prog 54=some [1,1]:=by kernel_rfl
theorem Weo (parts:List (Nat × AV)):Xk Tryz.prog 54 parts=(Wi (apl Tryz.prog 54) [.int .i64 0,.int .i64 0] parts).map AV.agg:=Yo (by kernel_rfl) (by decide) (by kernel_rfl) parts
theorem Xd7 (parts:List (Nat × AV)):Xk Tryz.prog 57 parts=(Wi (apl Tryz.prog 57) [.int .i64 0,.int .i64 0,.bool false,.bool false,.nils,.nils] parts).map AV.agg:=Yo (by kernel_rfl) (by decide) (by kernel_rfl) parts
theorem Ydx (parts:List (Nat × AV)):Xk Tryz.prog 59 parts=(Wi (apl Tryz.prog 59) [.int .i64 0,.int .i64 0,.nils] parts).map AV.agg:=Yo (by kernel_rfl) (by decide) (by kernel_rfl) parts
theorem Ues (parts:List (Nat × AV)):Xk Tryz.prog 74 parts=(Wi (apl Tryz.prog 74) [.int .i64 0,.int .i64 0,.bool false,.bool false,.nils,.nils] parts).map AV.agg:=Yo (by kernel_rfl) (by decide) (by kernel_rfl) parts
theorem Vc9 (parts:List (Nat × AV)):Xk Tryz.prog 96 parts=(Wi (apl Tryz.prog 96) [.int .i64 0,.int .i64 0,.nils] parts).map AV.agg:=Yo (by kernel_rfl) (by decide) (by kernel_rfl) parts
theorem Yd9:Uy Tryz.prog 163=some (54,74):=by kernel_rfl
theorem Vdy:Xy Tryz.prog 54=some [1,1]:=by kernel_rfl
theorem Vc0 (parts:List (Nat × AV)):Xk Tryz.prog 167 parts=(Wi (apl Tryz.prog 167) [.bool false,.nils] parts).map AV.agg:=Yo (by kernel_rfl) (by decide) (by kernel_rfl) parts
theorem Ye3 (parts:List (Nat × AV)):Xk Tryz.prog 176 parts=(Wi (apl Tryz.prog 176) [.nils,.int .i64 0,.int .u32 0] parts).map AV.agg:=Yo (by kernel_rfl) (by decide) (by kernel_rfl) parts
theorem Vey (parts:List (Nat × AV)):Xk Tryz.prog 179 parts=(Wi (apl Tryz.prog 179) [.nilp,.nils] parts).map AV.agg:=Yo (by kernel_rfl) (by decide) (by kernel_rfl) parts
theorem Vd5 (parts:List (Nat × AV)):Xk Tryz.prog 210 parts=(Wi (apl Tryz.prog 210) [.nilf,.int .i64 0] parts).map AV.agg:=Yo (by kernel_rfl) (by decide) (by kernel_rfl) parts
theorem Vd3 (parts:List (Nat × AV)):Xk Tryz.prog 226 parts=(Wi (apl Tryz.prog 226) [.nils] parts).map AV.agg:=Yo (by kernel_rfl) (by decide) (by kernel_rfl) parts
theorem Xdx:Uy Tryz.prog 227=some (54,3):=by kernel_rfl
theorem Udz:Xy Tryz.prog 54=some [1,1]:=by kernel_rfl
theorem Vew (parts:List (Nat × AV)):Xk Tryz.prog 229 parts=(Wi (apl Tryz.prog 229) [.nils,.nilm] parts).map AV.agg:=Yo (by kernel_rfl) (by decide) (by kernel_rfl) parts
theorem We2:Vu Tryz.prog 246=some [3]:=by kernel_rfl
theorem Zet (parts:List (Nat × AV)):Xk Tryz.prog 246 parts=(Wi (apl Tryz.prog 246) [.str []] parts).map AV.agg:=Yo (by kernel_rfl) (by decide) (by kernel_rfl) parts
theorem Xew:Vu Tryz.prog 297=some [1,1]:=by kernel_rfl
theorem Zda (parts:List (Nat × AV)):Xk Tryz.prog 297 parts=(Wi (apl Tryz.prog 297) [.int .u8 0,.int .u8 0] parts).map AV.agg:=Yo (by kernel_rfl) (by decide) (by kernel_rfl) parts
theorem Xec (parts:List (Nat × AV)):Xk Tryz.prog 305 parts=(Wi (apl Tryz.prog 305) [.str [],.str [],.nili] parts).map AV.agg:=Yo (by kernel_rfl) (by decide) (by kernel_rfl) parts
theorem Zcy:Vu Tryz.prog 314=some [3]:=by kernel_rfl
theorem Uen (parts:List (Nat × AV)):Xk Tryz.prog 314 parts=(Wi (apl Tryz.prog 314) [.str []] parts).map AV.agg:=Yo (by kernel_rfl) (by decide) (by kernel_rfl) parts
theorem Xc8 (parts:List (Nat × AV)):Xk Tryz.prog 318 parts=(Wi (apl Tryz.prog 318) [.nilp,.nilp,.nilp,.str []] parts).map AV.agg:=Yo (by kernel_rfl) (by decide) (by kernel_rfl) parts
attribute [simp] Zew Xe1 Uc0 Weo Xd7 Ydx Ues Vc9 Yd9 Vdy Vc0 Ye3 Vey Vd5 Vd3 Xdx Udz Vew We2 Zet Xew Zda Xec Zcy Uen Xc8
end Ab

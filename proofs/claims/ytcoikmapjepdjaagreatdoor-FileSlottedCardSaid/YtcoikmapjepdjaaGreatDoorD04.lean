/-
  Texts packed for a claim.
-/
import Derived.Test.YtcoikmapjepdjaaGreatDoorD00
import Derived.Test.YtcoikmapjepdjaaGreatDoorProg
import Derived.Test.YtcoikmapjepdjaaGreatDoorD03
set_option linter.all false
namespace Ab
open Go Go.RowKit
variable [Mode]
variable {P:Program}
def tg (t:List AV) (i:Nat):AV:=t.getD i .any
def ts (t:List AV) (i:Nat) (v:AV):List AV:=t.set i v
def te (args:List AV) (n:Nat):List AV:=args++List.replicate (n - args.length) .any
theorem Zed (t:List AV) (i j:Nat) (v:AV):tg (ts t i v) j=if i=j then (if i<t.length then v else .any) else tg t j:=by
 unfold tg ts
 simp only [List.getD_eq_getElem?_getD,List.getElem?_set]
 split
 ·rename_i e;subst e
  split<;>rfl
 ·rfl
theorem Vfl (t:List AV) (i:Nat) (v:AV):(ts t i v).length=t.length:=by simp [ts]
theorem Udm {args:List AV} {n:Nat} (h:args.length≤n):(te args n).length=n:=by simp [te];omega
theorem Zg3 (args:List AV) (n j:Nat):tg (te args n) j=tg args j:=by
 unfold tg te
 simp only [List.getD_eq_getElem?_getD]
 rcases Qzn j args.length with h | h
 ·rw [Qzl h]
 ·rw [Qzr h,List.getElem?_eq_none h,List.getElem?_replicate]
  split<;>rfl
theorem Wgj (j:Nat):tg [] j=.any:=(rfl)
theorem Ufi (v:AV) (l:List AV):tg (v::l) 0=v:=(rfl)
theorem Zcy (v:AV) (l:List AV) (j:Nat):tg (v::l) (j+1)=tg l j:=(rfl)
theorem Xg0 (t:List AV) (i:Nat):Wa t (.tmp i)=tg t i:=(rfl)
theorem Xfv (t:List AV) (v:Value):Wa t (.const v)=ofValue v:=(rfl)
theorem Vgs (t:List AV) (g:Nat):Wa t (.global g)=.gl g:=(rfl)
theorem Xhp (t:List AV) (f:FuncId):Wa t (.func f)=.fn (.func f) [] []:=(rfl)
theorem Xeg (e:Env) (d:Tmp) (v:AV):e.put (some d) v={ e with t:=ts e.t d v }:=(rfl)
theorem Xg1 (e:Env) (v:AV):e.put none v=e:=(rfl)
theorem Yg0 (e:Env) (d:Tmp) (b:Bool):e.known (some d) b={ e with t:=ts e.t d (.bool b) }:=(rfl)
theorem Xfx (e:Env) (b:Bool):e.known none b=e:=(rfl)
theorem Xdh (e:Env) (d:Tmp) (b:Bool):e.op (.tmp d) b={ e with t:=ts e.t d (.bool b) }:=(rfl)
theorem Uel (e:Env) (v:Value) (b:Bool):e.op (.const v) b=e:=(rfl)
theorem Uc2 (ops:List Oper) (t:List AV):Xn ops t none=some none:=(rfl)
theorem Xgz (ops:List Oper) (t:List AV) (j:Nat) (w:Bool):Xn ops t (some (j,w))=match (ops[j]?).bind (·.dst) with
  | some d=>(match tg t d with
   | .bool b=>some (some (some d,b,w))
   | .tup _=>some (some (none,!w,w))
   | _=>none)
  | none=>none:=(rfl)
theorem Yfn (t:List AV) (σ:Za) (i:Nat):Xah P t σ (.tmp i)=some (tg t i):=(rfl)
theorem Yhl (t:List AV) (σ:Za) (a:Nat) (ty:TypeId):Xah P t σ (.cell a ty)=Wx P ty (tg t a) σ:=(rfl)
theorem Yb {f:FuncId} {fn:Func} {c:Code} {args:List AV} {σ:Za} {R:AV→Za→Prop} (hf:P.funcs[f]? = some fn) (hb:fn.body=some c) (hen:Enters P f)
  (h:awp P none c (QFn P fn R) { t:=te args fn.ntmps } σ):ACalls P f args σ R:=Ubk hf hb hen (Yl c h)
theorem Wb9 {f:FuncId} {fn:Func} {c:Code} {args:List AV} {σ:Za} {R:AV→Za→Prop} (hf:P.funcs[f]? = some fn) (hb:fn.body=some c) (hen:Enters P f)
  (h:awp P none c (QFn P fn R) { t:=te args fn.ntmps } σ):AEnter P f args σ R:=Zb3 hf hb hen (Yl c h)
theorem Xf4 {rd:Option Nat} {c:Code} {Q:Exit→Env→Za→Prop} {env:Env} {σ:Za} (I:Env→Za→Prop) (μ:Env→Za→Nat) (h0:I env σ)
  (round:∀ env σ,I env σ→awp P rd c (Wb (fun env' σ'=>I env' σ'∧μ env' σ'<μ env σ) Q) env σ):ACode P rd (.loop c) Q env σ :=
 Ydc I μ h0 fun env σ hi=>Yl c (round env σ hi)
theorem Vdx (X Y:Prop):Cs true X Y=X:=by simp [Cs]
theorem Xhd (X Y:Prop):Cs false X Y=Y:=by simp [Cs]
theorem Cs.intro {b:Bool} {X Y:Prop} (h:b=true→X) (h':b=false→Y):Cs b X Y:=⟨h,h'⟩
theorem Uaw (x y:Za) (k:Nat):(x++y)[x.length+k]? = y[k]?:=by
 rw [Qzr (by omega)];congr 1;omega
theorem Zf7 (x y:Za):(x++y)[x.length]? = y[0]?:=Uaw x y 0
theorem Ycd (x y:Za) (k:Nat) (o:AObj):(x++y).set (x.length+k) o=x++y.set k o:=by
 rw [List.set_append_right _ _ (by omega)];congr 2;omega
theorem Ug6 (x y:Za) (o:AObj):(x++y).set x.length o=x++y.set 0 o:=Ycd x y 0 o
def apl (P:Program) (t:TypeId) (i:Nat):Option (Nat × Nat):=(Uav P t).bind fun f=>f i
omit [Mode] in
theorem Xi {t:TypeId} {l:List AV} (hz:tz P t=some (.agg l)) (hk:l.all AV.one=true) (hp:(Uav P t).isSome=true) (parts:List (Nat × AV)):Zh P t parts=(Xg (apl P t) l parts).map AV.agg:=by
 unfold Zh
 rw [hz]
 cases h:Uav P t with
 | none=>rw [h] at hp;cases hp
 | some pl =>
  have:apl P t=pl:=by funext i;simp [apl,h]
  simp only [AV.known,hk,if_true,this,AV.cells]
end Ab
namespace Ab
open Go Go.Proofs
abbrev tF (t:TypeId) (a:Option (Nat × Bool)) (b:Option TypeId) (c:Bool) (d:Option IntKind) (e:Nat) (f:Bool) (g h:Nat):Prop:=tsa Tryz.prog t=a∧Yd Tryz.prog t=b∧Wd Tryz.prog t=c∧Vf Tryz.prog t=d∧Ud Tryz.prog t=e∧Yh Tryz.prog t=f∧Xe Tryz.prog t=g∧tby Tryz.prog t=h
abbrev tZ (t:TypeId) (z:AV):Prop:=tz Tryz.prog t=some z
abbrev tK (t:TypeId) (k:Nat):Prop:=tzk Tryz.prog t k=true
abbrev tD (t:TypeId) (j a b:Nat):Prop:=Xk Tryz.prog t j=some (a,b)
abbrev tA (t:TypeId) (j a b:Nat):Prop:=apl Tryz.prog t j=some (a,b)
theorem t8 {A B C D E F G H:Type} {a a1:A} {b b1:B} {c c1:C} {d d1:D} {e e1:E} {f f1:F} {g g1:G} {h h1:H} (x:(a,b,c,d,e,f,g,h)=(a1,b1,c1,d1,e1,f1,g1,h1)):a=a1∧b=b1∧c=c1∧d=d1∧e=e1∧f=f1∧g=g1∧h=h1:=by simpa only [Prod.mk.injEq] using x
theorem tf {t:TypeId} {a:Option (Nat × Bool)} {b:Option TypeId} {c:Bool} {d:Option IntKind} {e:Nat} {f:Bool} {g h:Nat} (x:(tsa Tryz.prog t,Yd Tryz.prog t,Wd Tryz.prog t,Vf Tryz.prog t,Ud Tryz.prog t,Yh Tryz.prog t,Xe Tryz.prog t,tby Tryz.prog t)=(a,b,c,d,e,f,g,h)):tF t a b c d e f g h:=t8 x
theorem fZ {t:TypeId} {z:AV} (x:tz Tryz.prog t=some z):tZ t z:=x
theorem fK {t:TypeId} {k:Nat} (x:tzk Tryz.prog t k=true):tK t k:=x
theorem fD {t:TypeId} {j a b:Nat} (x:Xk Tryz.prog t j=some (a,b)):tD t j a b:=x
theorem fA {t:TypeId} {j a b:Nat} (x:apl Tryz.prog t j=some (a,b)):tA t j a b:=x
@[simp] theorem p0:tF 0 (some (1,false)) none false none 0 false 0 0:=tf (by kernel_rfl)
@[simp] theorem p2:tF 2 (some (1,false)) none false (some .i64) 1 false 0 8∧tZ 2 (.int .i64 0)∧tK 2 1:=⟨tf (by kernel_rfl),fZ (by kernel_rfl),fK (by kernel_rfl)⟩
@[simp] theorem p3:tF 3 (some (1,false)) none false (some .i64) 1 false 0 8∧tZ 3 (.int .i64 0)∧tK 3 1:=⟨tf (by kernel_rfl),fZ (by kernel_rfl),fK (by kernel_rfl)⟩
@[simp] theorem p4:tF 4 (some (1,false)) none false none 2 true 0 1∧tZ 4 (.bool false)∧tK 4 1:=⟨tf (by kernel_rfl),fZ (by kernel_rfl),fK (by kernel_rfl)⟩
@[simp] theorem p5:tF 5 (some (1,false)) none false (some .u8) 1 false 0 1∧tZ 5 (.int .u8 0)∧tK 5 1:=⟨tf (by kernel_rfl),fZ (by kernel_rfl),fK (by kernel_rfl)⟩
@[simp] theorem p9:tF 9 (some (1,false)) none true none 3 false 0 16∧tZ 9 (.str [])∧tK 9 1:=⟨tf (by kernel_rfl),fZ (by kernel_rfl),fK (by kernel_rfl)⟩
@[simp] theorem p20:tF 20 (some (1,false)) none false none 0 false 5 16∧tZ 20 .nili∧tK 20 1:=⟨tf (by kernel_rfl),fZ (by kernel_rfl),fK (by kernel_rfl)⟩
@[simp] theorem p21:tF 21 (some (1,false)) none false (some .i32) 1 false 0 4∧tZ 21 (.int .i32 0)∧tK 21 1:=⟨tf (by kernel_rfl),fZ (by kernel_rfl),fK (by kernel_rfl)⟩
@[simp] theorem p22:tF 22 (some (1,false)) (some 5) false none 0 false 2 24∧tZ 22 .nils∧tK 22 1:=⟨tf (by kernel_rfl),fZ (by kernel_rfl),fK (by kernel_rfl)⟩
@[simp] theorem p23:tF 23 (some (1,false)) none false none 0 false 1 8∧tZ 23 .nilp∧tK 23 1:=⟨tf (by kernel_rfl),fZ (by kernel_rfl),fK (by kernel_rfl)⟩
@[simp] theorem p25:tF 25 (some (1,false)) (some 34) false none 0 false 2 24∧tZ 25 .nils∧tK 25 1:=⟨tf (by kernel_rfl),fZ (by kernel_rfl),fK (by kernel_rfl)⟩
@[simp] theorem p27:tF 27 (some (2,true)) none false none 0 false 0 32∧tZ 27 (.agg [.int .i64 0,.nils])∧tK 27 2∧tD 27 0 0 3∧tA 27 0 0 1∧tD 27 1 1 25∧tA 27 1 1 1:=⟨tf (by kernel_rfl),fZ (by kernel_rfl),fK (by kernel_rfl),fD (by kernel_rfl),fA (by kernel_rfl),fD (by kernel_rfl),fA (by kernel_rfl)⟩
@[simp] theorem p32:tF 32 (some (1,false)) (some 3) false none 0 false 2 24∧tZ 32 .nils∧tK 32 1:=⟨tf (by kernel_rfl),fZ (by kernel_rfl),fK (by kernel_rfl)⟩
@[simp] theorem p34:tF 34 (some (2,true)) none false none 0 false 0 32∧tZ 34 (.agg [.int .i64 0,.nils])∧tK 34 2∧tD 34 0 0 3∧tA 34 0 0 1∧tD 34 1 1 32∧tA 34 1 1 1:=⟨tf (by kernel_rfl),fZ (by kernel_rfl),fK (by kernel_rfl),fD (by kernel_rfl),fA (by kernel_rfl),fD (by kernel_rfl),fA (by kernel_rfl)⟩
@[simp] theorem p38:tF 38 (some (1,false)) (some 32) false none 0 false 2 24∧tZ 38 .nils∧tK 38 1:=⟨tf (by kernel_rfl),fZ (by kernel_rfl),fK (by kernel_rfl)⟩
@[simp] theorem p39:tF 39 (some (1,false)) none false (some .i64) 1 false 0 8∧tZ 39 (.int .i64 0)∧tK 39 1:=⟨tf (by kernel_rfl),fZ (by kernel_rfl),fK (by kernel_rfl)⟩
@[simp] theorem p57:tF 57 (some (1,false)) (some 88) false none 0 false 2 24∧tZ 57 .nils∧tK 57 1:=⟨tf (by kernel_rfl),fZ (by kernel_rfl),fK (by kernel_rfl)⟩
@[simp] theorem p60:tF 60 (some (1,false)) (some 75) false none 0 false 2 24∧tZ 60 .nils∧tK 60 1:=⟨tf (by kernel_rfl),fZ (by kernel_rfl),fK (by kernel_rfl)⟩
@[simp] theorem p61:tF 61 (some (1,false)) none false none 0 false 0 0:=tf (by kernel_rfl)
@[simp] theorem p66:tF 66 (some (1,false)) (some 9) false none 0 false 2 24∧tZ 66 .nils∧tK 66 1:=⟨tf (by kernel_rfl),fZ (by kernel_rfl),fK (by kernel_rfl)⟩
@[simp] theorem p67:tF 67 (some (1,false)) none false none 0 false 0 0:=tf (by kernel_rfl)
@[simp] theorem p73:tF 73 (some (1,false)) none false (some .i64) 1 false 0 8∧tZ 73 (.int .i64 0)∧tK 73 1:=⟨tf (by kernel_rfl),fZ (by kernel_rfl),fK (by kernel_rfl)⟩
@[simp] theorem p75:tF 75 (some (6,true)) none false none 0 false 0 72∧tZ 75 (.agg [.int .i64 0,.int .i64 0,.bool false,.bool false,.nils,.nils])∧tK 75 6∧tD 75 0 0 73∧tA 75 0 0 1∧tD 75 1 1 3∧tA 75 1 1 1∧tD 75 2 2 4∧tA 75 2 2 1∧tD 75 3 3 4∧tA 75 3 3 1∧tD 75 4 4 66∧tA 75 4 4 1∧tD 75 5 5 66∧tA 75 5 5 1:=⟨tf (by kernel_rfl),fZ (by kernel_rfl),fK (by kernel_rfl),fD (by kernel_rfl),fA (by kernel_rfl),fD (by kernel_rfl),fA (by kernel_rfl),fD (by kernel_rfl),fA (by kernel_rfl),fD (by kernel_rfl),fA (by kernel_rfl),fD (by kernel_rfl),fA (by kernel_rfl),fD (by kernel_rfl),fA (by kernel_rfl)⟩
@[simp] theorem p88:tF 88 (some (3,true)) none false none 0 false 0 40∧tZ 88 (.agg [.int .i64 0,.int .i64 0,.nils])∧tK 88 3∧tD 88 0 0 73∧tA 88 0 0 1∧tD 88 1 1 3∧tA 88 1 1 1∧tD 88 2 2 66∧tA 88 2 2 1:=⟨tf (by kernel_rfl),fZ (by kernel_rfl),fK (by kernel_rfl),fD (by kernel_rfl),fA (by kernel_rfl),fD (by kernel_rfl),fA (by kernel_rfl),fD (by kernel_rfl),fA (by kernel_rfl)⟩
@[simp] theorem p89:tF 89 (some (1,false)) none false none 0 false 0 0:=tf (by kernel_rfl)
@[simp] theorem p92:tF 92 (some (1,false)) none false (some .u64) 1 false 0 8∧tZ 92 (.int .u64 0)∧tK 92 1:=⟨tf (by kernel_rfl),fZ (by kernel_rfl),fK (by kernel_rfl)⟩
@[simp] theorem p93:tF 93 (some (1,false)) none false none 0 false 0 0:=tf (by kernel_rfl)
@[simp] theorem p95:tF 95 (some (1,false)) none false none 0 false 0 0:=tf (by kernel_rfl)
@[simp] theorem Zh7:tF 104 (some (1,false)) none false none 0 false 5 16∧tZ 104 .nili∧tK 104 1:=⟨tf (by kernel_rfl),fZ (by kernel_rfl),fK (by kernel_rfl)⟩
@[simp] theorem Yhy:tF 105 (some (1,false)) none false none 0 false 0 0:=tf (by kernel_rfl)
@[simp] theorem Yh4:tF 120 (some (1,false)) none false none 0 false 4 8∧tZ 120 .nilf∧tK 120 1:=⟨tf (by kernel_rfl),fZ (by kernel_rfl),fK (by kernel_rfl)⟩
@[simp] theorem Vh7:tF 129 (some (1,false)) (some 177) false none 0 false 2 24∧tZ 129 .nils∧tK 129 1:=⟨tf (by kernel_rfl),fZ (by kernel_rfl),fK (by kernel_rfl)⟩
@[simp] theorem Wht:tF 130 (some (1,false)) none false none 0 false 0 0:=tf (by kernel_rfl)
@[simp] theorem Uh6:tF 135 (some (1,false)) none false (some .u32) 1 false 0 4∧tZ 135 (.int .u32 0)∧tK 135 1:=⟨tf (by kernel_rfl),fZ (by kernel_rfl),fK (by kernel_rfl)⟩
@[simp] theorem Zhs:tF 137 (some (3,true)) none false none 0 false 0 40∧tZ 137 (.agg [.nils,.int .i64 0,.int .u32 0])∧tK 137 3∧tD 137 0 0 22∧tA 137 0 0 1∧tD 137 1 1 3∧tA 137 1 1 1∧tD 137 2 2 135∧tA 137 2 2 1:=⟨tf (by kernel_rfl),fZ (by kernel_rfl),fK (by kernel_rfl),fD (by kernel_rfl),fA (by kernel_rfl),fD (by kernel_rfl),fA (by kernel_rfl),fD (by kernel_rfl),fA (by kernel_rfl)⟩
@[simp] theorem Yia:tF 172 (some (1,false)) (some 180) false none 0 false 2 24∧tZ 172 .nils∧tK 172 1:=⟨tf (by kernel_rfl),fZ (by kernel_rfl),fK (by kernel_rfl)⟩
@[simp] theorem Vh2:tF 173 (some (1,false)) none false none 0 false 0 0:=tf (by kernel_rfl)
@[simp] theorem Xh9:tF 177 (some (2,true)) none false none 0 false 0 16∧tZ 177 (.agg [.int .i64 0,.int .i64 0])∧tK 177 2∧tD 177 0 0 73∧tA 177 0 0 1∧tD 177 1 1 3∧tA 177 1 1 1:=⟨tf (by kernel_rfl),fZ (by kernel_rfl),fK (by kernel_rfl),fD (by kernel_rfl),fA (by kernel_rfl),fD (by kernel_rfl),fA (by kernel_rfl)⟩
@[simp] theorem Yh0:tF 179 (some (2,true)) none false none 0 false 0 32∧tZ 179 (.agg [.bool false,.nils])∧tK 179 2∧tD 179 0 0 4∧tA 179 0 0 1∧tD 179 1 1 66∧tA 179 1 1 1:=⟨tf (by kernel_rfl),fZ (by kernel_rfl),fK (by kernel_rfl),fD (by kernel_rfl),fA (by kernel_rfl),fD (by kernel_rfl),fA (by kernel_rfl)⟩
@[simp] theorem Xhz:tF 180 (some (1,false)) none false none 0 false 1 8∧tZ 180 .nilp∧tK 180 1:=⟨tf (by kernel_rfl),fZ (by kernel_rfl),fK (by kernel_rfl)⟩
@[simp] theorem Uhz:tF 202 (some (1,false)) none false none 0 false 4 8∧tZ 202 .nilf∧tK 202 1:=⟨tf (by kernel_rfl),fZ (by kernel_rfl),fK (by kernel_rfl)⟩
@[simp] theorem Xh7:tF 205 (some (1,false)) none false none 0 false 1 8∧tZ 205 .nilp∧tK 205 1:=⟨tf (by kernel_rfl),fZ (by kernel_rfl),fK (by kernel_rfl)⟩
@[simp] theorem Xh4:tF 207 (some (2,true)) none false none 0 false 0 32∧tZ 207 (.agg [.nilp,.nils])∧tK 207 2∧tD 207 0 0 205∧tA 207 0 0 1∧tD 207 1 1 22∧tA 207 1 1 1:=⟨tf (by kernel_rfl),fZ (by kernel_rfl),fK (by kernel_rfl),fD (by kernel_rfl),fA (by kernel_rfl),fD (by kernel_rfl),fA (by kernel_rfl)⟩
@[simp] theorem Wh5:tF 209 (some (1,false)) none false none 0 false 4 8∧tZ 209 .nilf∧tK 209 1:=⟨tf (by kernel_rfl),fZ (by kernel_rfl),fK (by kernel_rfl)⟩
@[simp] theorem Xh8:tF 211 (some (2,true)) none false none 0 false 0 16∧tZ 211 (.agg [.int .i64 0,.int .i64 0])∧tK 211 2:=⟨tf (by kernel_rfl),fZ (by kernel_rfl),fK (by kernel_rfl)⟩
@[simp] theorem Vhy:tF 214 (some (1,false)) none false none 0 false 0 0:=tf (by kernel_rfl)
@[simp] theorem Yhr:tF 217 (some (1,false)) none false none 0 false 0 0:=tf (by kernel_rfl)
@[simp] theorem Vh8:tF 219 (some (1,false)) none false none 0 false 0 0:=tf (by kernel_rfl)
@[simp] theorem Vhu:tF 221 (some (1,false)) none false none 0 false 0 0:=tf (by kernel_rfl)
@[simp] theorem Uh3:tF 242 (some (1,false)) none false none 0 false 0 0:=tf (by kernel_rfl)
@[simp] theorem Zhw:tF 244 (some (1,false)) none false none 0 false 4 8∧tZ 244 .nilf∧tK 244 1:=⟨tf (by kernel_rfl),fZ (by kernel_rfl),fK (by kernel_rfl)⟩
@[simp] theorem Xh2:tF 264 (some (1,false)) (some 57) false none 0 false 2 24∧tZ 264 .nils∧tK 264 1:=⟨tf (by kernel_rfl),fZ (by kernel_rfl),fK (by kernel_rfl)⟩
@[simp] theorem Zhy:tF 267 (some (1,true)) none false none 0 false 0 24∧tZ 267 (.agg [.nils])∧tK 267 1∧tD 267 0 0 57∧tA 267 0 0 1:=⟨tf (by kernel_rfl),fZ (by kernel_rfl),fK (by kernel_rfl),fD (by kernel_rfl),fA (by kernel_rfl)⟩
@[simp] theorem Uhs:tF 268 (some (1,false)) none false none 0 false 3 8∧tZ 268 .nilm∧tK 268 1:=⟨tf (by kernel_rfl),fZ (by kernel_rfl),fK (by kernel_rfl)⟩
@[simp] theorem Vh1:tF 270 (some (2,true)) none false none 0 false 0 32∧tZ 270 (.agg [.nils,.nilm])∧tK 270 2∧tD 270 0 0 267∧tA 270 0 0 1∧tD 270 1 1 268∧tA 270 1 1 1:=⟨tf (by kernel_rfl),fZ (by kernel_rfl),fK (by kernel_rfl),fD (by kernel_rfl),fA (by kernel_rfl),fD (by kernel_rfl),fA (by kernel_rfl)⟩
@[simp] theorem Uhq:tF 272 (some (1,false)) none false none 0 false 4 8∧tZ 272 .nilf∧tK 272 1:=⟨tf (by kernel_rfl),fZ (by kernel_rfl),fK (by kernel_rfl)⟩
@[simp] theorem Uh1:tF 274 (some (1,false)) none false none 0 false 0 0:=tf (by kernel_rfl)
@[simp] theorem Zh1:tF 283 (some (5,true)) none false none 0 false 0 40∧tZ 283 (.agg [.int .i64 0,.int .i64 0,.int .i64 0,.int .i64 0,.int .i64 0])∧tK 283 5∧tA 283 0 0 1∧tA 283 1 1 1∧tA 283 2 2 1∧tA 283 3 3 1∧tA 283 4 4 1:=⟨tf (by kernel_rfl),fZ (by kernel_rfl),fK (by kernel_rfl),fA (by kernel_rfl),fA (by kernel_rfl),fA (by kernel_rfl),fA (by kernel_rfl),fA (by kernel_rfl)⟩
@[simp] theorem Yhz:tF 292 (some (1,false)) none false none 0 false 1 8∧tZ 292 .nilp∧tK 292 1:=⟨tf (by kernel_rfl),fZ (by kernel_rfl),fK (by kernel_rfl)⟩
@[simp] theorem Zh5:tF 294 (some (1,false)) none false none 0 false 0 0:=tf (by kernel_rfl)
@[simp] theorem Uh0:tF 297 (some (1,false)) none false none 0 false 4 8∧tZ 297 .nilf∧tK 297 1:=⟨tf (by kernel_rfl),fZ (by kernel_rfl),fK (by kernel_rfl)⟩
@[simp] theorem Yh9:tF 298 (some (1,false)) none false none 0 false 4 8∧tZ 298 .nilf∧tK 298 1:=⟨tf (by kernel_rfl),fZ (by kernel_rfl),fK (by kernel_rfl)⟩
@[simp] theorem Uht:tF 301 (some (1,false)) none false none 0 false 4 8∧tZ 301 .nilf∧tK 301 1:=⟨tf (by kernel_rfl),fZ (by kernel_rfl),fK (by kernel_rfl)⟩
@[simp] theorem Wh0:tF 304 (some (2,true)) none false none 0 false 0 16∧tZ 304 (.agg [.nilf,.int .i64 0])∧tK 304 2∧tD 304 0 0 209∧tA 304 0 0 1∧tD 304 1 1 39∧tA 304 1 1 1:=⟨tf (by kernel_rfl),fZ (by kernel_rfl),fK (by kernel_rfl),fD (by kernel_rfl),fA (by kernel_rfl),fD (by kernel_rfl),fA (by kernel_rfl)⟩
@[simp] theorem Xhy:tF 305 (some (1,false)) (some 304) false none 0 false 2 24∧tZ 305 .nils∧tK 305 1:=⟨tf (by kernel_rfl),fZ (by kernel_rfl),fK (by kernel_rfl)⟩
@[simp] theorem Uh5:tF 306 (some (1,false)) none false none 0 false 0 0:=tf (by kernel_rfl)
@[simp] theorem Wh3:tF 308 (some (1,false)) none false (some .u64) 1 false 0 8∧tZ 308 (.int .u64 0)∧tK 308 1:=⟨tf (by kernel_rfl),fZ (by kernel_rfl),fK (by kernel_rfl)⟩
@[simp] theorem Zh9:tF 309 (some (1,false)) none false none 0 false 0 0:=tf (by kernel_rfl)
@[simp] theorem Vhz:tF 312 (some (1,false)) none false none 0 false 0 0:=tf (by kernel_rfl)
@[simp] theorem Whu:tF 314 (some (1,false)) none false none 0 false 1 8∧tZ 314 .nilp∧tK 314 1:=⟨tf (by kernel_rfl),fZ (by kernel_rfl),fK (by kernel_rfl)⟩
@[simp] theorem Uhv:tF 322 (some (1,false)) none false (some .i64) 1 false 0 8∧tZ 322 (.int .i64 0)∧tK 322 1:=⟨tf (by kernel_rfl),fZ (by kernel_rfl),fK (by kernel_rfl)⟩
@[simp] theorem Zhq:tF 323 (some (1,false)) none false none 0 false 0 0:=tf (by kernel_rfl)
@[simp] theorem Xhx:tF 352 (some (24,true)) none false none 0 false 0 24∧tZ 352 (.agg [.int .u8 0,.int .u8 0,.int .u8 0,.int .u8 0,.int .u8 0,.int .u8 0,.int .u8 0,.int .u8 0,.int .u8 0,.int .u8 0,.int .u8 0,.int .u8 0,.int .u8 0,.int .u8 0,.int .u8 0,.int .u8 0,.int .u8 0,.int .u8 0,.int .u8 0,.int .u8 0,.int .u8 0,.int .u8 0,.int .u8 0,.int .u8 0])∧tK 352 24:=⟨tf (by kernel_rfl),fZ (by kernel_rfl),fK (by kernel_rfl)⟩
@[simp] theorem Zhu:tF 354 (some (1,false)) none false none 0 false 0 0:=tf (by kernel_rfl)
@[simp] theorem Xic:tF 356 (some (1,false)) none false none 0 false 0 8∧tZ 356 .nilp∧tK 356 1:=⟨tf (by kernel_rfl),fZ (by kernel_rfl),fK (by kernel_rfl)⟩
@[simp] theorem Yhu:tF 360 (some (1,false)) none false none 0 false 4 8∧tZ 360 .nilf∧tK 360 1:=⟨tf (by kernel_rfl),fZ (by kernel_rfl),fK (by kernel_rfl)⟩
@[simp] theorem Uia:tF 361 (some (1,false)) none false none 0 false 4 8∧tZ 361 .nilf∧tK 361 1:=⟨tf (by kernel_rfl),fZ (by kernel_rfl),fK (by kernel_rfl)⟩
@[simp] theorem Zh8:tF 363 (some (1,true)) none false none 0 false 0 16∧tZ 363 (.agg [.str []])∧tK 363 1∧tD 363 0 0 9∧tA 363 0 0 1:=⟨tf (by kernel_rfl),fZ (by kernel_rfl),fK (by kernel_rfl),fD (by kernel_rfl),fA (by kernel_rfl)⟩
@[simp] theorem Xh0:tF 364 (some (1,false)) none false none 0 false 0 0:=tf (by kernel_rfl)
@[simp] theorem Zh0:tF 367 (some (3,true)) none false none 0 false 0 48∧tZ 367 (.agg [.str [],.str [],.nili])∧tK 367 3∧tD 367 0 0 9∧tA 367 0 0 1∧tD 367 1 1 9∧tA 367 1 1 1∧tD 367 2 2 104∧tA 367 2 2 1:=⟨tf (by kernel_rfl),fZ (by kernel_rfl),fK (by kernel_rfl),fD (by kernel_rfl),fA (by kernel_rfl),fD (by kernel_rfl),fA (by kernel_rfl),fD (by kernel_rfl),fA (by kernel_rfl)⟩
@[simp] theorem Vhq:tF 383 (some (1,false)) none false (some .u64) 1 false 0 8∧tZ 383 (.int .u64 0)∧tK 383 1:=⟨tf (by kernel_rfl),fZ (by kernel_rfl),fK (by kernel_rfl)⟩
@[simp] theorem Vhr:tF 387 (some (1,false)) none false none 0 false 1 8∧tZ 387 .nilp∧tK 387 1:=⟨tf (by kernel_rfl),fZ (by kernel_rfl),fK (by kernel_rfl)⟩
@[simp] theorem Yh5:tF 403 (some (20,true)) none false none 0 false 0 160∧tZ 403 (.agg [.int .u64 0,.int .u64 0,.int .u64 0,.int .u64 0,.int .u64 0,.int .u64 0,.int .u64 0,.int .u64 0,.int .u64 0,.int .u64 0,.int .u64 0,.int .u64 0,.int .u64 0,.int .u64 0,.int .u64 0,.int .u64 0,.int .u64 0,.int .u64 0,.int .u64 0,.int .u64 0])∧tK 403 20:=⟨tf (by kernel_rfl),fZ (by kernel_rfl),fK (by kernel_rfl)⟩
@[simp] theorem Xia:tF 404 (some (65,true)) none false none 0 false 0 65:=tf (by kernel_rfl)
@[simp] theorem Zhx:tF 409 (some (1,false)) none false none 0 false 1 8∧tZ 409 .nilp∧tK 409 1:=⟨tf (by kernel_rfl),fZ (by kernel_rfl),fK (by kernel_rfl)⟩
@[simp] theorem Zib:tF 411 (some (1,true)) none false none 0 false 0 16∧tZ 411 (.agg [.str []])∧tK 411 1∧tD 411 0 0 9∧tA 411 0 0 1:=⟨tf (by kernel_rfl),fZ (by kernel_rfl),fK (by kernel_rfl),fD (by kernel_rfl),fA (by kernel_rfl)⟩
@[simp] theorem Xhr:tF 416 (some (1,false)) none false none 0 false 1 8∧tZ 416 .nilp∧tK 416 1:=⟨tf (by kernel_rfl),fZ (by kernel_rfl),fK (by kernel_rfl)⟩
@[simp] theorem Wh7:tF 417 (some (1,false)) none false none 0 false 0 0:=tf (by kernel_rfl)
@[simp] theorem Whq:tF 429 (some (32,true)) none false none 0 false 0 32∧tZ 429 (.agg [.int .u8 0,.int .u8 0,.int .u8 0,.int .u8 0,.int .u8 0,.int .u8 0,.int .u8 0,.int .u8 0,.int .u8 0,.int .u8 0,.int .u8 0,.int .u8 0,.int .u8 0,.int .u8 0,.int .u8 0,.int .u8 0,.int .u8 0,.int .u8 0,.int .u8 0,.int .u8 0,.int .u8 0,.int .u8 0,.int .u8 0,.int .u8 0,.int .u8 0,.int .u8 0,.int .u8 0,.int .u8 0,.int .u8 0,.int .u8 0,.int .u8 0,.int .u8 0])∧tK 429 32:=⟨tf (by kernel_rfl),fZ (by kernel_rfl),fK (by kernel_rfl)⟩
@[simp] theorem Vhw:tF 430 (some (64,true)) none false none 0 false 0 64∧tZ 430 (.agg [.int .u8 0,.int .u8 0,.int .u8 0,.int .u8 0,.int .u8 0,.int .u8 0,.int .u8 0,.int .u8 0,.int .u8 0,.int .u8 0,.int .u8 0,.int .u8 0,.int .u8 0,.int .u8 0,.int .u8 0,.int .u8 0,.int .u8 0,.int .u8 0,.int .u8 0,.int .u8 0,.int .u8 0,.int .u8 0,.int .u8 0,.int .u8 0,.int .u8 0,.int .u8 0,.int .u8 0,.int .u8 0,.int .u8 0,.int .u8 0,.int .u8 0,.int .u8 0,.int .u8 0,.int .u8 0,.int .u8 0,.int .u8 0,.int .u8 0,.int .u8 0,.int .u8 0,.int .u8 0,.int .u8 0,.int .u8 0,.int .u8 0,.int .u8 0,.int .u8 0,.int .u8 0,.int .u8 0,.int .u8 0,.int .u8 0,.int .u8 0,.int .u8 0,.int .u8 0,.int .u8 0,.int .u8 0,.int .u8 0,.int .u8 0,.int .u8 0,.int .u8 0,.int .u8 0,.int .u8 0,.int .u8 0,.int .u8 0,.int .u8 0,.int .u8 0])∧tK 430 64:=⟨tf (by kernel_rfl),fZ (by kernel_rfl),fK (by kernel_rfl)⟩
theorem Xgk:Vm Tryz.prog 177=some [1,1]:=by kernel_rfl
theorem Vdl (parts:List (Nat × AV)):Zh Tryz.prog 177 parts=(Xg (apl Tryz.prog 177) [.int .i64 0,.int .i64 0] parts).map AV.agg:=Xi (by kernel_rfl) (by decide) (by kernel_rfl) parts
theorem Yfp (parts:List (Nat × AV)):Zh Tryz.prog 88 parts=(Xg (apl Tryz.prog 88) [.int .i64 0,.int .i64 0,.nils] parts).map AV.agg:=Xi (by kernel_rfl) (by decide) (by kernel_rfl) parts
theorem Ve6 (parts:List (Nat × AV)):Zh Tryz.prog 75 parts=(Xg (apl Tryz.prog 75) [.int .i64 0,.int .i64 0,.bool false,.bool false,.nils,.nils] parts).map AV.agg:=Xi (by kernel_rfl) (by decide) (by kernel_rfl) parts
theorem Wer:Yk Tryz.prog 177=some [1,1]:=by kernel_rfl
theorem Yet (parts:List (Nat × AV)):Zh Tryz.prog 179 parts=(Xg (apl Tryz.prog 179) [.bool false,.nils] parts).map AV.agg:=Xi (by kernel_rfl) (by decide) (by kernel_rfl) parts
theorem Yfg (parts:List (Nat × AV)):Zh Tryz.prog 137 parts=(Xg (apl Tryz.prog 137) [.nils,.int .i64 0,.int .u32 0] parts).map AV.agg:=Xi (by kernel_rfl) (by decide) (by kernel_rfl) parts
theorem Vd0 (parts:List (Nat × AV)):Zh Tryz.prog 207 parts=(Xg (apl Tryz.prog 207) [.nilp,.nils] parts).map AV.agg:=Xi (by kernel_rfl) (by decide) (by kernel_rfl) parts
theorem Xdg (parts:List (Nat × AV)):Zh Tryz.prog 304 parts=(Xg (apl Tryz.prog 304) [.nilf,.int .i64 0] parts).map AV.agg:=Xi (by kernel_rfl) (by decide) (by kernel_rfl) parts
theorem Xfz (parts:List (Nat × AV)):Zh Tryz.prog 267 parts=(Xg (apl Tryz.prog 267) [.nils] parts).map AV.agg:=Xi (by kernel_rfl) (by decide) (by kernel_rfl) parts
theorem Wev:Yv Tryz.prog 268=some (177,3):=by kernel_rfl
theorem Xeo:Yk Tryz.prog 177=some [1,1]:=by kernel_rfl
theorem Wha (parts:List (Nat × AV)):Zh Tryz.prog 270 parts=(Xg (apl Tryz.prog 270) [.nils,.nilm] parts).map AV.agg:=Xi (by kernel_rfl) (by decide) (by kernel_rfl) parts
theorem Zgu:Vm Tryz.prog 363=some [3]:=by kernel_rfl
theorem Wf1 (parts:List (Nat × AV)):Zh Tryz.prog 363 parts=(Xg (apl Tryz.prog 363) [.str []] parts).map AV.agg:=Xi (by kernel_rfl) (by decide) (by kernel_rfl) parts
theorem Zhl (parts:List (Nat × AV)):Zh Tryz.prog 367 parts=(Xg (apl Tryz.prog 367) [.str [],.str [],.nili] parts).map AV.agg:=Xi (by kernel_rfl) (by decide) (by kernel_rfl) parts
theorem Ue8:Vm Tryz.prog 411=some [3]:=by kernel_rfl
theorem Uhf (parts:List (Nat × AV)):Zh Tryz.prog 411 parts=(Xg (apl Tryz.prog 411) [.str []] parts).map AV.agg:=Xi (by kernel_rfl) (by decide) (by kernel_rfl) parts
theorem Xg7 (parts:List (Nat × AV)):Zh Tryz.prog 27 parts=(Xg (apl Tryz.prog 27) [.int .i64 0,.nils] parts).map AV.agg:=Xi (by kernel_rfl) (by decide) (by kernel_rfl) parts
theorem Xev (parts:List (Nat × AV)):Zh Tryz.prog 34 parts=(Xg (apl Tryz.prog 34) [.int .i64 0,.nils] parts).map AV.agg:=Xi (by kernel_rfl) (by decide) (by kernel_rfl) parts
theorem Ufv:Wq Tryz.prog 283=some (5,3):=by kernel_rfl
theorem Uga:Vm Tryz.prog 283=some [1,1,1,1,1]:=by kernel_rfl
theorem Vge:Yk Tryz.prog 283=some [1,1,1,1,1]:=by kernel_rfl
theorem Yep (parts:List (Nat × AV)):Zh Tryz.prog 283 parts=(Xg (apl Tryz.prog 283) [.int .i64 0,.int .i64 0,.int .i64 0,.int .i64 0,.int .i64 0] parts).map AV.agg:=Xi (by kernel_rfl) (by decide) (by kernel_rfl) parts
attribute [simp] Xgk Vdl Yfp Ve6 Wer Yet Yfg Vd0 Xdg Xfz Wev Xeo Wha Zgu Wf1 Zhl Ue8 Uhf Xg7 Xev Ufv Uga Vge Yep
end Ab

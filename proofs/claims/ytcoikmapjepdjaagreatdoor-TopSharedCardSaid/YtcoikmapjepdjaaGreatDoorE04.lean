/-
  Texts packed for a claim.
-/
import Derived.Test.YtcoikmapjepdjaaGreatDoorE00
import Derived.Test.YtcoikmapjepdjaaGreatDoorE03
set_option linter.all false
namespace Ab
open Go Go.RowKit
variable [Mode]
variable {P:Program}
def tg (t:List AV) (i:Nat):AV:=t.getD i .any
def ts (t:List AV) (i:Nat) (v:AV):List AV:=t.set i v
def te (args:List AV) (n:Nat):List AV:=args++List.replicate (n - args.length) .any
theorem Xdg (t:List AV) (i j:Nat) (v:AV):tg (ts t i v) j=if i=j then (if i<t.length then v else .any) else tg t j:=by
 unfold tg ts
 simp only [List.getD_eq_getElem?_getD,List.getElem?_set]
 split
 ·rename_i e;subst e
  split<;>rfl
 ·rfl
theorem Wb7 (t:List AV) (i:Nat) (v:AV):(ts t i v).length=t.length:=by simp [ts]
theorem Xdf {args:List AV} {n:Nat} (h:args.length≤n):(te args n).length=n:=by simp [te];omega
theorem Xec (args:List AV) (n j:Nat):tg (te args n) j=tg args j:=by
 unfold tg te
 simp only [List.getD_eq_getElem?_getD]
 rcases Qzn j args.length with h | h
 ·rw [Qzl h]
 ·rw [Qzr h,List.getElem?_eq_none h,List.getElem?_replicate]
  split<;>rfl
theorem Zdp (j:Nat):tg [] j=.any:=(rfl)
theorem Xha (v:AV) (l:List AV):tg (v::l) 0=v:=(rfl)
theorem Vgt (v:AV) (l:List AV) (j:Nat):tg (v::l) (j+1)=tg l j:=(rfl)
theorem Yd2 (t:List AV) (i:Nat):Wa t (.tmp i)=tg t i:=(rfl)
theorem Udt (t:List AV) (v:Value):Wa t (.const v)=ofValue v:=(rfl)
theorem Uf9 (t:List AV) (g:Nat):Wa t (.global g)=.gl g:=(rfl)
theorem Xeb (t:List AV) (f:FuncId):Wa t (.func f)=.fn (.func f) [] []:=(rfl)
theorem Zer (e:Env) (d:Tmp) (v:AV):e.put (some d) v={ e with t:=ts e.t d v }:=(rfl)
theorem Ude (e:Env) (v:AV):e.put none v=e:=(rfl)
theorem Yco (e:Env) (d:Tmp) (b:Bool):e.known (some d) b={ e with t:=ts e.t d (.bool b) }:=(rfl)
theorem Zfo (e:Env) (b:Bool):e.known none b=e:=(rfl)
theorem Ydc (e:Env) (d:Tmp) (b:Bool):e.op (.tmp d) b={ e with t:=ts e.t d (.bool b) }:=(rfl)
theorem Zd1 (e:Env) (v:Value) (b:Bool):e.op (.const v) b=e:=(rfl)
theorem Ugk (ops:List Oper) (t:List AV):Wm ops t none=some none:=(rfl)
theorem Xem (ops:List Oper) (t:List AV) (j:Nat) (w:Bool):Wm ops t (some (j,w))=match (ops[j]?).bind (·.dst) with
  | some d=>(match tg t d with
   | .bool b=>some (some (some d,b,w))
   | .tup _=>some (some (none,!w,w))
   | _=>none)
  | none=>none:=(rfl)
theorem Ugh (t:List AV) (σ:Za) (i:Nat):Wah P t σ (.tmp i)=some (tg t i):=(rfl)
theorem Ye1 (t:List AV) (σ:Za) (a:Nat) (ty:TypeId):Wah P t σ (.cell a ty)=Vx P ty (tg t a) σ:=(rfl)
theorem Yb {f:FuncId} {fn:Func} {c:Code} {args:List AV} {σ:Za} {R:AV→Za→Prop} (hf:P.funcs[f]? = some fn) (hb:fn.body=some c) (hen:Enters P f)
  (h:awp P none c (QFn P fn R) { t:=te args fn.ntmps } σ):ACalls P f args σ R:=Vao hf hb hen (Vk c h)
theorem Veh {f:FuncId} {fn:Func} {c:Code} {args:List AV} {σ:Za} {R:AV→Za→Prop} (hf:P.funcs[f]? = some fn) (hb:fn.body=some c) (hen:Enters P f)
  (h:awp P none c (QFn P fn R) { t:=te args fn.ntmps } σ):AEnter P f args σ R:=Vcg hf hb hen (Vk c h)
theorem Yc6 {rd:Option Nat} {c:Code} {Q:Exit→Env→Za→Prop} {env:Env} {σ:Za} (I:Env→Za→Prop) (μ:Env→Za→Nat) (h0:I env σ)
  (round:∀ env σ,I env σ→awp P rd c (Wb (fun env' σ'=>I env' σ'∧μ env' σ'<μ env σ) Q) env σ):ACode P rd (.loop c) Q env σ :=
 Zbr I μ h0 fun env σ hi=>Vk c (round env σ hi)
theorem Zeb (X Y:Prop):Cs true X Y=X:=by simp [Cs]
theorem Udy (X Y:Prop):Cs false X Y=Y:=by simp [Cs]
theorem Cs.intro {b:Bool} {X Y:Prop} (h:b=true→X) (h':b=false→Y):Cs b X Y:=⟨h,h'⟩
theorem Yat (x y:Za) (k:Nat):(x++y)[x.length+k]? = y[k]?:=by
 rw [Qzr (by omega)];congr 1;omega
theorem Udc (x y:Za):(x++y)[x.length]? = y[0]?:=Yat x y 0
theorem Ycb (x y:Za) (k:Nat) (o:AObj):(x++y).set (x.length+k) o=x++y.set k o:=by
 rw [List.set_append_right _ _ (by omega)];congr 2;omega
theorem Ydv (x y:Za) (o:AObj):(x++y).set x.length o=x++y.set 0 o:=Ycb x y 0 o
def apl (P:Program) (t:TypeId) (i:Nat):Option (Nat × Nat):=(Xar P t).bind fun f=>f i
omit [Mode] in
theorem Uf {t:TypeId} {l:List AV} (hz:tz P t=some (.agg l)) (hk:l.all AV.one=true) (hp:(Xar P t).isSome=true) (parts:List (Nat × AV)):Xe P t parts=(Ud (apl P t) l parts).map AV.agg:=by
 unfold Xe
 rw [hz]
 cases h:Xar P t with
 | none=>rw [h] at hp;cases hp
 | some pl =>
  have:apl P t=pl:=by funext i;simp [apl,h]
  simp only [AV.known,hk,if_true,this,AV.cells]
end Ab

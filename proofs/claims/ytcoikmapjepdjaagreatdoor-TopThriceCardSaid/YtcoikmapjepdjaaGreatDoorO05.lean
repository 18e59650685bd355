/-
  Texts packed for a claim.
-/
import Derived.Test.YtcoikmapjepdjaaGreatDoorO00
import Derived.Test.YtcoikmapjepdjaaGreatDoorO03
import Derived.Test.YtcoikmapjepdjaaGreatDoorO04
set_option linter.all false
namespace Ab
open Go Go.RowKit
variable [Mode]
universe u
attribute [simp] Zhd Yc1 Xe5 Ugj Ufs Ug7 Ygs Zfo Wgl Yek Wht Zgx Wfn Uid Vgf Zds Zea Zgb Ye4 Ydq Wib Ya4 Zii Ycu Vem
attribute [simp] Zbd Waz Za6 Zbf Zx Va1 abstr Uv Ua0 Va4 Uax Uas Wau Yat Ubc Yv Wu Yaw Xas Zy Za4 Uf7 Xe8 Zfp Vho Xgu Wgq Ydp Ue8
attribute [simp] Uan Zaw Xat Vas Vav Yar Uz Xal Zai Xaa Xag Wy rd wr sub Xa Uo Ye Vax Wg Xt
class Hd (α:Sort u) where
 v:α
def StA (P:Program) (f:FuncId) (args:List AV) (σ:Za) [R:Hd (AV→Za→Prop)]:Prop:=ACalls P f args σ R.v
def StY (P:Program) (r:Nat) (args:List AV) (σ:Za) [R:Hd (AV→Za→Prop)]:Prop:=AYield P r args σ R.v
def StC (P:Program) (rd:Option Nat) [c:Hd Code] [Q:Hd (Exit→Env→Za→Prop)] (env:Env) (σ:Za):Prop:=ACode P rd c.v Q.v env σ
def CsT (b:Bool) [X:Hd Prop] [Y:Hd Prop]:Prop:=Cs b X.v Y.v
theorem Xc {P:Program} {rd:Option Nat} {c:Code} {Q:Exit→Env→Za→Prop} {env:Env} {σ:Za} (I:Env→Za→Prop) (μ:Env→Za→Nat) (h0:I env σ)
  (round:∀ env σ,I env σ→awp P rd c (Xb (fun env' σ'=>I env' σ'∧μ env' σ'<μ env σ) Q) env σ):@StC _ P rd ⟨.loop c⟩ ⟨Q⟩ env σ:=Whr I μ h0 round
theorem CsT.intro {b:Bool} {X Y:Prop} (h:b=true→X) (h':b=false→Y):@CsT b ⟨X⟩ ⟨Y⟩:=⟨h,h'⟩
theorem StA.of {P:Program} {f:FuncId} {args:List AV} {σ:Za} {R:AV→Za→Prop} (h:ACalls P f args σ R):@StA _ P f args σ ⟨R⟩:=h
theorem Vgi (X Y:Hd Prop):@CsT true X Y=X.v:=by simp [CsT,Cs]
theorem Ydr (X Y:Hd Prop):@CsT false X Y=Y.v:=by simp [CsT,Cs]
section congrs
variable {P:Program} {rd:Option Nat} {c:Code} {Q:Exit→Env→Za→Prop} {N K:Env→Za→Prop} {env env':Env} {σ σ':Za} {ops l:List Oper} {o:Oper} {e:Exit}
@[congr] theorem Xjc (h:env=env') (h':σ=σ'):ACode P rd c Q env σ=ACode P rd c Q env' σ':=by rw [h,h']
@[congr] theorem Ui0 (h:env=env') (h':σ=σ'):awp P rd c Q env σ=awp P rd c Q env' σ':=by rw [h,h']
@[congr] theorem Uiy (h:env=env') (h':σ=σ'):aws P ops l K env σ=aws P ops l K env' σ':=by rw [h,h']
@[congr] theorem Xiz {K:AV→Za→Prop} (h:env=env') (h':σ=σ'):aw1 P o K env σ=aw1 P o K env' σ':=by rw [h,h']
@[congr] theorem Yjc (h:env=env') (h':σ=σ'):Xb N Q e env σ=Xb N Q e env' σ':=by rw [h,h']
@[congr] theorem Zi3 {id:Nat} (h:env=env') (h':σ=σ'):Vb id Q e env σ=Vb id Q e env' σ':=by rw [h,h']
@[congr] theorem Wi9 {fn:Func} {R:AV→Za→Prop} (h:env=env') (h':σ=σ'):QFn P fn R e env σ=QFn P fn R e env' σ':=by rw [h,h']
@[congr] theorem Zi2 {f:FuncId} {args args':List AV} {R:AV→Za→Prop} (h:args=args') (h':σ=σ'):ACalls P f args σ R=ACalls P f args' σ' R:=by rw [h,h']
@[congr] theorem Wi0 {t t':List AV} {g:Option (Nat × Bool)} (h:t=t'):Wn ops t g=Wn ops t' g:=by rw [h]
@[congr] theorem Xir {b b':Bool} {X Y:Prop} (h:b=b'):Cs b X Y=Cs b' X Y:=by rw [h]
def Om (r:Option (AV × Za)) (K:AV→Za→Prop):Prop:=match r with
 | some (v,s)=>K v s
 | none=>False
@[congr] theorem Wi2 {r r':Option (AV × Za)} {K:AV→Za→Prop} (h:r=r'):Om r K=Om r' K:=by rw [h]
theorem Xk (v:AV) (s:Za) (K:AV→Za→Prop):Om (some (v,s)) K=K v s:=(rfl)
theorem Ves (K:AV→Za→Prop):Om none K=False:=(rfl)
def Og (P:Program) (ops:List Oper) (o:Oper) (rest:List Oper) (K:Env→Za→Prop) (env:Env) (σ:Za) (g:Option (Option (Option Tmp × Bool × Bool))):Prop:=match g with
 | some none=>aw1 P o (fun v σ'=>aws P ops rest K (env.put o.dst v) σ') env σ
 | some (some (d,b,want))=>Cs (b == want) (aw1 P o (fun v σ'=>aws P ops rest K ((env.known d want).put o.dst v) σ') (env.known d want) σ) (aws P ops rest K ((env.known d (!want)).put o.dst (.tup [])) σ)
 | none=>False
@[congr] theorem Ui5 {g g':Option (Option (Option Tmp × Bool × Bool))} (h:g=g'):Og P ops o l K env σ g=Og P ops o l K env σ g':=by rw [h]
theorem Ufq {d:Option Tmp} {b want:Bool}:Og P ops o l K env σ (some (some (d,b,want)))=@CsT (b == want) ⟨aw1 P o (fun v σ'=>aws P ops l K ((env.known d want).put o.dst v) σ') (env.known d want) σ⟩ ⟨aws P ops l K ((env.known d (!want)).put o.dst (.tup [])) σ⟩:=(rfl)
theorem Wdl:awp P rd .skip Q env σ=Q .normal env σ:=(rfl)
theorem Xil {n:Nat}:awp P rd (.label n) Q env σ=Q .normal env σ:=(rfl)
theorem Xg2 {n:Nat}:awp P rd (.exit n) Q env σ=Q (.exit n) env σ:=(rfl)
theorem Zdh {n:Nat}:awp P rd (.goto n) Q env σ=Q (.goto n) env σ:=(rfl)
theorem Uf9:awp P rd .ret Q env σ=Q .ret env σ:=(rfl)
theorem Xdj {id:Nat}:awp P rd (.region id l.toArray false) Q env σ=aws P l l (Q .normal) env σ:=(rfl)
theorem Xhg {id:Nat} {a:Array Oper}:awp P rd (.region id a true) Q env σ=@StC _ P rd ⟨.region id a true⟩ ⟨Q⟩ env σ:=(rfl)
theorem Uhu {a b:Code}:awp P rd (.seq a b) Q env σ=awp P rd a (Xb (awp P rd b Q) Q) env σ:=(rfl)
def Oc (x:AV) (X Y:Prop):Prop:=match x with
 | .bool p=>Cs p X Y
 | _=>False
@[congr] theorem Xiy {x x':AV} {X Y:Prop} (h:x=x'):Oc x X Y=Oc x' X Y:=by rw [h]
theorem Zhu {p:Bool} {X Y:Prop}:Oc (.bool p) X Y=@CsT p ⟨X⟩ ⟨Y⟩:=(rfl)
theorem Xe7 {x:Operand} {a b:Code}:awp P rd (.cond x a b) Q env σ=Oc (Wa env.t x) (awp P rd a Q (env.op x true) σ) (awp P rd b Q (env.op x false) σ):=(rfl)
theorem Zfn {id:Nat} {a:Code}:awp P rd (.block id a) Q env σ=awp P rd a (Vb id Q) env σ:=(rfl)
theorem Ues {a:Code}:awp P rd (.loop a) Q env σ=@StC _ P rd ⟨.loop a⟩ ⟨Q⟩ env σ:=(rfl)
theorem Zgw {f:Operand} {ps:Array Tmp} {a b:Code}:awp P rd (.rangeFunc f ps a b) Q env σ=@StC _ P rd ⟨.rangeFunc f ps a b⟩ ⟨Q⟩ env σ:=(rfl)
theorem Xh2:aws P ops [] K env σ=K env σ:=(rfl)
section one
variable {dst:Option Tmp} {ty:TypeId} {pos:String} {after:Array Edge} {op:Op} {K1:AV→Za→Prop}
theorem Zgs:aws P ops (⟨dst,op,ty,pos,after,none⟩::l) K env σ=aw1 P ⟨dst,op,ty,pos,after,none⟩ (fun v σ'=>aws P ops l K (env.put dst v) σ') env σ:=(rfl)
theorem We8 {j:Nat} {w:Bool}:aws P ops (⟨dst,op,ty,pos,after,some (j,w)⟩::l) K env σ=Og P ops ⟨dst,op,ty,pos,after,some (j,w)⟩ l K env σ (Wn ops env.t (some (j,w))):=(rfl)
variable {g:Option (Nat × Bool)}
theorem Wcr {x:Operand}:aw1 P ⟨dst,.move x,ty,pos,after,g⟩ K1 env σ=K1 (Wa env.t x) σ:=(rfl)
theorem Vcl {x:Operand}:aw1 P ⟨dst,.assign x,ty,pos,after,g⟩ K1 env σ=K1 (Wa env.t x) σ:=(rfl)
def Pk (c x y:AV):Option AV:=match c with
 | .bool p=>some (if p then x else y)
 | _=>none
theorem Ycz {c x y:Operand}:aw1 P ⟨dst,.pick c x y,ty,pos,after,g⟩ K1 env σ=Om ((Pk (Wa env.t c) (Wa env.t x) (Wa env.t y)).map (·,σ)) K1:=by
 simp only [aw1,aop,Om,Pk]
 cases Wa env.t c<;>rfl
theorem Zbh {e:TypeId}:aw1 P ⟨dst,.alloc e,ty,pos,after,g⟩ K1 env σ=Om ((tz P e).bind fun z=>Wy z σ) K1:=(rfl)
theorem Uca {e:TypeId} {x:Operand}:aw1 P ⟨dst,.box e x,ty,pos,after,g⟩ K1 env σ=Om (Wy (Wa env.t x) σ) K1:=(rfl)
theorem Zc3 {e:TypeId} {ps:Array (Nat × Operand)}:aw1 P ⟨dst,.build e ps,ty,pos,after,g⟩ K1 env σ=Om ((Ve P e (ps.toList.map fun p=>(p.1,Wa env.t p.2))).map (·,σ)) K1:=(rfl)
theorem Xcn {e:TypeId} {n:Nat} {ps:Array (Nat × Operand)}:aw1 P ⟨dst,.buildSlice e n ps,ty,pos,after,g⟩ K1 env σ=Om (Zai P e n (ps.toList.map fun p=>(p.1,Wa env.t p.2)) σ) K1:=(rfl)
theorem Yc3 {e:TypeId} {x:Operand}:aw1 P ⟨dst,.load e x,ty,pos,after,g⟩ K1 env σ=Om ((Xaa P e (Wa env.t x) σ).map (·,σ)) K1:=(rfl)
theorem Xb0 {e:TypeId} {x y:Operand}:aw1 P ⟨dst,.store e x y,ty,pos,after,g⟩ K1 env σ=Om ((Xag P e (Wa env.t x) (Wa env.t y) σ).map (AV.any,·)) K1:=(rfl)
theorem Vcm {x:Operand}:aw1 P ⟨dst,.nilCheck x,ty,pos,after,g⟩ K1 env σ=Om ((Waj (Wa env.t x)).map (·,σ)) K1:=(rfl)
theorem Vb9 {b:BinOp} {xt yt:TypeId} {x y:Operand}:aw1 P ⟨dst,.binOp b xt x y yt,ty,pos,after,g⟩ K1 env σ=Om ((Vat P b xt y (Wa env.t x) (Wa env.t y)).map (·,σ)) K1:=(rfl)
theorem Xc0 {b:UnOp} {xt:TypeId} {x:Operand}:aw1 P ⟨dst,.unOp b xt x,ty,pos,after,g⟩ K1 env σ=Om ((aun b (Wa env.t x)).map (·,σ)) K1:=(rfl)
theorem Vco {s d:TypeId} {x:Operand}:aw1 P ⟨dst,.convert s d x,ty,pos,after,g⟩ K1 env σ=Om (Vm P s d (Wa env.t x) σ) K1:=(rfl)
theorem Ueo {e:TypeId} {x y:Operand}:aw1 P ⟨dst,.makeSlice e x y,ty,pos,after,g⟩ K1 env σ=Om (Va1 P e (Wa env.t x) (Wa env.t y) σ) K1:=(rfl)
theorem Ub4 {e:TypeId}:aw1 P ⟨dst,.makeMap e none,ty,pos,after,g⟩ K1 env σ=Om (Uas P e σ) K1:=(rfl)
theorem Wcn {e:TypeId} {x y:Operand} {ok:Bool}:aw1 P ⟨dst,.lookup e x y ok,ty,pos,after,g⟩ K1 env σ=Om ((Wau P e (Wa env.t x) (Wa env.t y) ok σ).map (·,σ)) K1:=(rfl)
theorem Wcc {e:TypeId} {m x y:Operand}:aw1 P ⟨dst,.mapUpdate e m x y,ty,pos,after,g⟩ K1 env σ=Om ((Yat P e (Wa env.t m) (Wa env.t x) (Wa env.t y) σ).map (AV.any,·)) K1:=(rfl)
theorem Wik {e:TypeId} {x:Operand}:aw1 P ⟨dst,.range e x,ty,pos,after,g⟩ K1 env σ=Om (Va4 P e (Wa env.t x) σ) K1:=(rfl)
theorem Yfo {x:Operand} {b:Bool}:aw1 P ⟨dst,.next x b,ty,pos,after,g⟩ K1 env σ=Om (Uax (Wa env.t x) b σ) K1:=(rfl)
theorem Ubv {f:Fn} {xs ys:Array Operand}:aw1 P ⟨dst,.makeFunc f xs ys,ty,pos,after,g⟩ K1 env σ=K1 (.fn f (xs.toList.map (Wa env.t)) (ys.toList.map (Wa env.t))) σ:=(rfl)
theorem Ucv {e:TypeId} {x:Operand} {lo hi mx:Option Operand}:aw1 P ⟨dst,.slice e x lo hi mx,ty,pos,after,g⟩ K1 env σ=Om ((Wx P e (Wa env.t x) (lo.map (Wa env.t)) (hi.map (Wa env.t)) (mx.map (Wa env.t)) σ).map (·,σ)) K1:=(rfl)
theorem Xcx {e:TypeId} {x:Operand} {i:Nat}:aw1 P ⟨dst,.fieldAddr e x i,ty,pos,after,g⟩ K1 env σ=Om ((Xat P e (Wa env.t x) i).map (·,σ)) K1:=(rfl)
theorem Ucc {e:TypeId} {x:Operand} {i:Nat}:aw1 P ⟨dst,.field e x i,ty,pos,after,g⟩ K1 env σ=Om ((Zaw P e (Wa env.t x) i).map (·,σ)) K1:=(rfl)
theorem Zce {e:TypeId} {x i:Operand}:aw1 P ⟨dst,.indexAddr e x i,ty,pos,after,g⟩ K1 env σ=Om ((Vav P e (Wa env.t x) (Wa env.t i)).map (·,σ)) K1:=(rfl)
theorem Wci {e:TypeId} {x i:Operand}:aw1 P ⟨dst,.index e x i,ty,pos,after,g⟩ K1 env σ=Om ((Vas P e (Wa env.t x) (Wa env.t i)).map (·,σ)) K1:=(rfl)
theorem Ub7 {x:Operand} {i:Nat}:aw1 P ⟨dst,.extract x i,ty,pos,after,g⟩ K1 env σ=Om ((Yar (Wa env.t x) i).map (·,σ)) K1:=(rfl)
theorem Ybq {b:Builtin} {args:Array Operand} {ts:Array TypeId}:aw1 P ⟨dst,.call { callee:=.builtin b,args:=args,argTypes:=ts },ty,pos,after,g⟩ K1 env σ=Om (Zap P b ts (args.toList.map (Wa env.t)) σ) K1:=(rfl)
def Oa (P:Program) (f:AV) (args:List AV) (σ:Za) (K:AV→Za→Prop):Prop:=match f with
 | .fn (.func g) first caps=>ACalls P g (first++args++caps) σ K
 | .yld r=>AYield P r args σ K
 | _=>False
@[congr] theorem Vi5 {f f':AV} {args args':List AV} (h:f=f') (h2:args=args') (h3:σ=σ'):Oa P f args σ K1=Oa P f' args' σ' K1:=by rw [h,h2,h3]
theorem Vf2 {f:FuncId} {xs args ys:List AV}:Oa P (.fn (.func f) xs ys) args σ K1=@StA _ P f (xs++args++ys) σ ⟨K1⟩:=(rfl)
theorem Zfj {r:Nat} {args:List AV}:Oa P (.yld r) args σ K1=@StY _ P r args σ ⟨K1⟩:=(rfl)
theorem Wbo {f:Operand} {args:Array Operand} {ts:Array TypeId}:aw1 P ⟨dst,.call { callee:=.value f,args:=args,argTypes:=ts },ty,pos,after,g⟩ K1 env σ=Oa P (Wa env.t f) (args.toList.map (Wa env.t)) σ K1:=(rfl)
end one
attribute [simp] Xf3 Ze2 Vgi Ydr Xk Ves Ufq Zhu Vf2 Zfj Wdl Xil Xg2 Zdh Uf9 Xdj Xhg Uhu Xe7 Zfn Ues Zgw Xh2 Zgs We8 Pk Vm Zas
attribute [simp] Wcr Vcl Ycz Zbh Uca Zc3 Xcn Yc3 Xb0 Vcm Vb9 Xc0 Vco Ueo Ub4 Wcn Wcc Wik Yfo Ubv Ucv Xcx Ucc Zce Wci Ub7 Ybq Wbo
end congrs
theorem Xco (a b:Int):(a == b)=decide (a=b):=by rw [Bool.eq_iff_iff];simp
theorem Xie (a b:Int):(a != b)=!decide (a=b):=by rw [bne,Xco]
theorem Zca (a b:List UInt8):(a == b)=decide (a=b):=by rw [Bool.eq_iff_iff];simp
theorem Vc9 (a b:List UInt8):(a != b)=!decide (a=b):=by rw [bne,Zca]
attribute [simp] Vat Yax
attribute [simp] Xco Xie Zca Vc9
theorem Zd2 (l:List AV) (hk:0<l.length):∀ (n i:Nat),(List.replicate n l).flatten[i]? = if i<n*l.length then l[i % l.length]? else none:=by
 intro n
 induction n with
 | zero=>intro i;simp
 | succ n ih =>
  intro i
  rw [List.replicate_succ,List.flatten_cons,List.getElem?_append]
  by_cases h:i<l.length
  ·rw [if_pos h,if_pos (by rw [Nat.add_mul];omega),Nat.mod_eq_of_lt h]
  ·rw [if_neg h,ih,Nat.add_mul]
   by_cases h2:i - l.length<n*l.length
   ·rw [if_pos h2,if_pos (by omega),Nat.mod_eq_sub_mod (a:=i) (by omega)]
   ·rw [if_neg h2,if_neg (by omega)]
theorem Wcy {P:Program} (e:TypeId) (n:Nat):Xv P e n=match tsa P e,tz P e with
 | some (k,_),some z=>if z.known=true∧z.cells.length=k∧0<k then some (List.replicate n z.cells).flatten else none
 | _,_=>none:=by
 unfold Xv
 split
 ·rename_i k ag z hs hz
  rw [hs,hz]
  simp only
  by_cases hh:z.known=true∧z.cells.length=k∧0<k
  ·rw [if_pos hh,if_pos hh]
   obtain ⟨_,h2,h3⟩:=hh
   congr 1
   apply List.ext_getElem?
   intro i
   rw [Zd2 _ (by omega)]
   rw [Qzp,h2]
   by_cases hi:i<n*k
   ·rw [List.getElem?_range hi,if_pos hi,Option.map_some,List.getD_eq_getElem?_getD,Qze (by rw [h2];exact Nat.mod_lt _ h3)]
    simp
   ·rw [if_neg hi,List.getElem?_eq_none (by simpa using hi)]
    rfl
  ·rw [if_neg hh,if_neg hh]
 ·rename_i h
  split
  ·rename_i k ag z hs hz
   exact absurd hz (h k ag z hs)
  ·rfl
attribute [simp] Wcy
theorem w64 {n:Int} (h1:-9223372036854775808≤n) (h2:n≤9223372036854775807):IntKind.i64.wrap n=n:=by
 unfold IntKind.wrap
 have e1:(IntKind.bits .i64)=64:=rfl
 have e2:IntKind.signed .i64=true:=rfl
 simp only [e1,e2,Bool.true_and,decide_eq_true_eq]
 have e3:(2^64:Int)=18446744073709551616:=by decide
 have e4:(2^(64 - 1):Int)=9223372036854775808:=by decide
 rw [e3,e4]
 split<;>omega
theorem w8 {n:Int} (h1:0≤n) (h2:n≤255):IntKind.u8.wrap n=n:=by
 unfold IntKind.wrap
 have e1:(IntKind.bits .u8)=8:=rfl
 have e2:IntKind.signed .u8=false:=rfl
 simp only [e1,e2,Bool.false_and,Bool.false_eq_true,if_false]
 have e3:(2^8:Int)=256:=by decide
 rw [e3];omega
theorem Xbo (c:UInt8):c.toNat<256:=c.toNat_lt
end Ab

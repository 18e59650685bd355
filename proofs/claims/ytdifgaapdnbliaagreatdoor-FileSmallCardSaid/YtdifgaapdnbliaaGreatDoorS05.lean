/-
  Texts packed for a claim.
-/
import Derived.Test.YtdifgaapdnbliaaGreatDoorS00
import Derived.Test.YtdifgaapdnbliaaGreatDoorS03
import Derived.Test.YtdifgaapdnbliaaGreatDoorS04
set_option linter.all false
namespace Ab
open Go Go.RowKit
variable [Mode]
universe u
attribute [simp] Udx Yb9 Uc9 Xct Xel Zdp Yeh Uew Wdc Wda Zeq Wdp Vdf Wdy Wee Vc7 Zc1 Veu Ydw Ydu Wdb Zae Uea Ubs Ud9
attribute [simp] Wy Ul Ur Xa2 Zv Waz abstr Yaa Za0 Wax Wa0 Zap Vac Uas Ya3 Ve Yac
attribute [simp] Vb Van Yao Zat Xas Uao Uar Xah Vae Zaa Wac Wt rd wr sub Ya Xi Wi Uav Ug Vad
class Hd (α:Sort u) where
 v:α
def StA (P:Program) (f:FuncId) (args:List AV) (σ:Za) [R:Hd (AV→Za→Prop)]:Prop:=ACalls P f args σ R.v
def StY (P:Program) (r:Nat) (args:List AV) (σ:Za) [R:Hd (AV→Za→Prop)]:Prop:=AYield P r args σ R.v
def StC (P:Program) (rd:Option Nat) [c:Hd Code] [Q:Hd (Exit→Env→Za→Prop)] (env:Env) (σ:Za):Prop:=ACode P rd c.v Q.v env σ
def CsT (b:Bool) [X:Hd Prop] [Y:Hd Prop]:Prop:=Cs b X.v Y.v
theorem Yc {P:Program} {rd:Option Nat} {c:Code} {Q:Exit→Env→Za→Prop} {env:Env} {σ:Za} (I:Env→Za→Prop) (μ:Env→Za→Nat) (h0:I env σ)
  (round:∀ env σ,I env σ→awp P rd c (Zc (fun env' σ'=>I env' σ'∧μ env' σ'<μ env σ) Q) env σ):@StC _ P rd ⟨.loop c⟩ ⟨Q⟩ env σ:=Vdt I μ h0 round
theorem CsT.intro {b:Bool} {X Y:Prop} (h:b=true→X) (h':b=false→Y):@CsT b ⟨X⟩ ⟨Y⟩:=⟨h,h'⟩
theorem StA.of {P:Program} {f:FuncId} {args:List AV} {σ:Za} {R:AV→Za→Prop} (h:ACalls P f args σ R):@StA _ P f args σ ⟨R⟩:=h
theorem Ve2 (X Y:Hd Prop):@CsT true X Y=X.v:=by simp [CsT,Cs]
theorem Zeb (X Y:Hd Prop):@CsT false X Y=Y.v:=by simp [CsT,Cs]
section congrs
variable {P:Program} {rd:Option Nat} {c:Code} {Q:Exit→Env→Za→Prop} {N K:Env→Za→Prop} {env env':Env} {σ σ':Za} {ops l:List Oper} {o:Oper} {e:Exit}
@[congr] theorem We7 (h:env=env') (h':σ=σ'):ACode P rd c Q env σ=ACode P rd c Q env' σ':=by rw [h,h']
@[congr] theorem Yfo (h:env=env') (h':σ=σ'):awp P rd c Q env σ=awp P rd c Q env' σ':=by rw [h,h']
@[congr] theorem Wfa (h:env=env') (h':σ=σ'):aws P ops l K env σ=aws P ops l K env' σ':=by rw [h,h']
@[congr] theorem Wfb {K:AV→Za→Prop} (h:env=env') (h':σ=σ'):aw1 P o K env σ=aw1 P o K env' σ':=by rw [h,h']
@[congr] theorem Ufd (h:env=env') (h':σ=σ'):Zc N Q e env σ=Zc N Q e env' σ':=by rw [h,h']
@[congr] theorem Xfb {id:Nat} (h:env=env') (h':σ=σ'):Wc id Q e env σ=Wc id Q e env' σ':=by rw [h,h']
@[congr] theorem Yfi {fn:Func} {R:AV→Za→Prop} (h:env=env') (h':σ=σ'):QFn P fn R e env σ=QFn P fn R e env' σ':=by rw [h,h']
@[congr] theorem Yfa {f:FuncId} {args args':List AV} {R:AV→Za→Prop} (h:args=args') (h':σ=σ'):ACalls P f args σ R=ACalls P f args' σ' R:=by rw [h,h']
@[congr] theorem Xfk {t t':List AV} {g:Option (Nat × Bool)} (h:t=t'):Wl ops t g=Wl ops t' g:=by rw [h]
@[congr] theorem Ufh {b b':Bool} {X Y:Prop} (h:b=b'):Cs b X Y=Cs b' X Y:=by rw [h]
def Om (r:Option (AV × Za)) (K:AV→Za→Prop):Prop:=match r with
 | some (v,s)=>K v s
 | none=>False
@[congr] theorem Wfd {r r':Option (AV × Za)} {K:AV→Za→Prop} (h:r=r'):Om r K=Om r' K:=by rw [h]
theorem Xap (v:AV) (s:Za) (K:AV→Za→Prop):Om (some (v,s)) K=K v s:=(rfl)
theorem Xcr (K:AV→Za→Prop):Om none K=False:=(rfl)
def Og (P:Program) (ops:List Oper) (o:Oper) (rest:List Oper) (K:Env→Za→Prop) (env:Env) (σ:Za) (g:Option (Option (Option Tmp × Bool × Bool))):Prop:=match g with
 | some none=>aw1 P o (fun v σ'=>aws P ops rest K (env.put o.dst v) σ') env σ
 | some (some (d,b,want))=>Cs (b == want) (aw1 P o (fun v σ'=>aws P ops rest K ((env.known d want).put o.dst v) σ') (env.known d want) σ) (aws P ops rest K ((env.known d (!want)).put o.dst (.tup [])) σ)
 | none=>False
@[congr] theorem Ufg {g g':Option (Option (Option Tmp × Bool × Bool))} (h:g=g'):Og P ops o l K env σ g=Og P ops o l K env σ g':=by rw [h]
theorem Vds {d:Option Tmp} {b want:Bool}:Og P ops o l K env σ (some (some (d,b,want)))=@CsT (b == want) ⟨aw1 P o (fun v σ'=>aws P ops l K ((env.known d want).put o.dst v) σ') (env.known d want) σ⟩ ⟨aws P ops l K ((env.known d (!want)).put o.dst (.tup [])) σ⟩:=(rfl)
theorem Zei:awp P rd .skip Q env σ=Q .normal env σ:=(rfl)
theorem Vcw {n:Nat}:awp P rd (.label n) Q env σ=Q .normal env σ:=(rfl)
theorem Uev {n:Nat}:awp P rd (.exit n) Q env σ=Q (.exit n) env σ:=(rfl)
theorem Ydo {n:Nat}:awp P rd (.goto n) Q env σ=Q (.goto n) env σ:=(rfl)
theorem Udk:awp P rd .ret Q env σ=Q .ret env σ:=(rfl)
theorem Wdh {id:Nat}:awp P rd (.region id l.toArray false) Q env σ=aws P l l (Q .normal) env σ:=(rfl)
theorem Ydc {id:Nat} {a:Array Oper}:awp P rd (.region id a true) Q env σ=@StC _ P rd ⟨.region id a true⟩ ⟨Q⟩ env σ:=(rfl)
theorem Yf {a b:Code}:awp P rd (.seq a b) Q env σ=awp P rd a (Zc (awp P rd b Q) Q) env σ:=(rfl)
def Oc (x:AV) (X Y:Prop):Prop:=match x with
 | .bool p=>Cs p X Y
 | _=>False
@[congr] theorem Xfj {x x':AV} {X Y:Prop} (h:x=x'):Oc x X Y=Oc x' X Y:=by rw [h]
theorem Uey {p:Bool} {X Y:Prop}:Oc (.bool p) X Y=@CsT p ⟨X⟩ ⟨Y⟩:=(rfl)
theorem Ud {x:Operand} {a b:Code}:awp P rd (.cond x a b) Q env σ=Oc (Va env.t x) (awp P rd a Q (env.op x true) σ) (awp P rd b Q (env.op x false) σ):=(rfl)
theorem Ydh {id:Nat} {a:Code}:awp P rd (.block id a) Q env σ=awp P rd a (Wc id Q) env σ:=(rfl)
theorem Udq {a:Code}:awp P rd (.loop a) Q env σ=@StC _ P rd ⟨.loop a⟩ ⟨Q⟩ env σ:=(rfl)
theorem Wdk {f:Operand} {ps:Array Tmp} {a b:Code}:awp P rd (.rangeFunc f ps a b) Q env σ=@StC _ P rd ⟨.rangeFunc f ps a b⟩ ⟨Q⟩ env σ:=(rfl)
theorem Zdx:aws P ops [] K env σ=K env σ:=(rfl)
section one
variable {dst:Option Tmp} {ty:TypeId} {pos:String} {after:Array Edge} {op:Op} {K1:AV→Za→Prop}
theorem Ue4:aws P ops (⟨dst,op,ty,pos,after,none⟩::l) K env σ=aw1 P ⟨dst,op,ty,pos,after,none⟩ (fun v σ'=>aws P ops l K (env.put dst v) σ') env σ:=(rfl)
theorem Yc5 {j:Nat} {w:Bool}:aws P ops (⟨dst,op,ty,pos,after,some (j,w)⟩::l) K env σ=Og P ops ⟨dst,op,ty,pos,after,some (j,w)⟩ l K env σ (Wl ops env.t (some (j,w))):=(rfl)
variable {g:Option (Nat × Bool)}
theorem Ybu {x:Operand}:aw1 P ⟨dst,.move x,ty,pos,after,g⟩ K1 env σ=K1 (Va env.t x) σ:=(rfl)
theorem Uco {x:Operand}:aw1 P ⟨dst,.assign x,ty,pos,after,g⟩ K1 env σ=K1 (Va env.t x) σ:=(rfl)
def Pk (c x y:AV):Option AV:=match c with
 | .bool p=>some (if p then x else y)
 | _=>none
theorem Ub6 {c x y:Operand}:aw1 P ⟨dst,.pick c x y,ty,pos,after,g⟩ K1 env σ=Om ((Pk (Va env.t c) (Va env.t x) (Va env.t y)).map (·,σ)) K1:=by
 simp only [aw1,aop,Om,Pk]
 cases Va env.t c<;>rfl
theorem Wa8 {e:TypeId}:aw1 P ⟨dst,.alloc e,ty,pos,after,g⟩ K1 env σ=Om ((tz P e).bind fun z=>Wt z σ) K1:=(rfl)
theorem Vbz {e:TypeId} {x:Operand}:aw1 P ⟨dst,.box e x,ty,pos,after,g⟩ K1 env σ=Om (Wt (Va env.t x) σ) K1:=(rfl)
theorem Wcb {e:TypeId} {ps:Array (Nat × Operand)}:aw1 P ⟨dst,.build e ps,ty,pos,after,g⟩ K1 env σ=Om ((Xk P e (ps.toList.map fun p=>(p.1,Va env.t p.2))).map (·,σ)) K1:=(rfl)
theorem Ycl {e:TypeId} {n:Nat} {ps:Array (Nat × Operand)}:aw1 P ⟨dst,.buildSlice e n ps,ty,pos,after,g⟩ K1 env σ=Om (Vae P e n (ps.toList.map fun p=>(p.1,Va env.t p.2)) σ) K1:=(rfl)
theorem Yb0 {e:TypeId} {x:Operand}:aw1 P ⟨dst,.load e x,ty,pos,after,g⟩ K1 env σ=Om ((Zaa P e (Va env.t x) σ).map (·,σ)) K1:=(rfl)
theorem Ubr {e:TypeId} {x y:Operand}:aw1 P ⟨dst,.store e x y,ty,pos,after,g⟩ K1 env σ=Om ((Wac P e (Va env.t x) (Va env.t y) σ).map (AV.any,·)) K1:=(rfl)
theorem Wbv {x:Operand}:aw1 P ⟨dst,.nilCheck x,ty,pos,after,g⟩ K1 env σ=Om ((Uag (Va env.t x)).map (·,σ)) K1:=(rfl)
theorem Wcm {b:BinOp} {xt yt:TypeId} {x y:Operand}:aw1 P ⟨dst,.binOp b xt x y yt,ty,pos,after,g⟩ K1 env σ=Om ((Uan P b xt y (Va env.t x) (Va env.t y)).map (·,σ)) K1:=(rfl)
theorem Wb1 {b:UnOp} {xt:TypeId} {x:Operand}:aw1 P ⟨dst,.unOp b xt x,ty,pos,after,g⟩ K1 env σ=Om ((aun b (Va env.t x)).map (·,σ)) K1:=(rfl)
theorem Wca {s d:TypeId} {x:Operand}:aw1 P ⟨dst,.convert s d x,ty,pos,after,g⟩ K1 env σ=Om (Vk P s d (Va env.t x) σ) K1:=(rfl)
theorem Ye0 {e:TypeId} {x y:Operand}:aw1 P ⟨dst,.makeSlice e x y,ty,pos,after,g⟩ K1 env σ=Om (Waz P e (Va env.t x) (Va env.t y) σ) K1:=(rfl)
theorem Xb6 {e:TypeId}:aw1 P ⟨dst,.makeMap e none,ty,pos,after,g⟩ K1 env σ=Om (Zap P e σ) K1:=(rfl)
theorem Xck {e:TypeId} {x y:Operand} {ok:Bool}:aw1 P ⟨dst,.lookup e x y ok,ty,pos,after,g⟩ K1 env σ=Om ((Vac P e (Va env.t x) (Va env.t y) ok σ).map (·,σ)) K1:=(rfl)
theorem Ucg {e:TypeId} {m x y:Operand}:aw1 P ⟨dst,.mapUpdate e m x y,ty,pos,after,g⟩ K1 env σ=Om ((Uas P e (Va env.t m) (Va env.t x) (Va env.t y) σ).map (AV.any,·)) K1:=(rfl)
theorem Vct {e:TypeId} {x:Operand}:aw1 P ⟨dst,.range e x,ty,pos,after,g⟩ K1 env σ=Om (Wax P e (Va env.t x) σ) K1:=(rfl)
theorem Vdz {x:Operand} {b:Bool}:aw1 P ⟨dst,.next x b,ty,pos,after,g⟩ K1 env σ=Om (Wa0 (Va env.t x) b σ) K1:=(rfl)
theorem Vb4 {f:Fn} {xs ys:Array Operand}:aw1 P ⟨dst,.makeFunc f xs ys,ty,pos,after,g⟩ K1 env σ=K1 (.fn f (xs.toList.map (Va env.t)) (ys.toList.map (Va env.t))) σ:=(rfl)
theorem Ucd {e:TypeId} {x:Operand} {lo hi mx:Option Operand}:aw1 P ⟨dst,.slice e x lo hi mx,ty,pos,after,g⟩ K1 env σ=Om ((Uar P e (Va env.t x) (lo.map (Va env.t)) (hi.map (Va env.t)) (mx.map (Va env.t))).map (·,σ)) K1:=(rfl)
theorem Zb6 {e:TypeId} {x:Operand} {i:Nat}:aw1 P ⟨dst,.fieldAddr e x i,ty,pos,after,g⟩ K1 env σ=Om ((Yao P e (Va env.t x) i).map (·,σ)) K1:=(rfl)
theorem Vce {e:TypeId} {x:Operand} {i:Nat}:aw1 P ⟨dst,.field e x i,ty,pos,after,g⟩ K1 env σ=Om ((Van P e (Va env.t x) i).map (·,σ)) K1:=(rfl)
theorem Ycg {e:TypeId} {x i:Operand}:aw1 P ⟨dst,.indexAddr e x i,ty,pos,after,g⟩ K1 env σ=Om ((Xas P e (Va env.t x) (Va env.t i)).map (·,σ)) K1:=(rfl)
theorem Vci {e:TypeId} {x i:Operand}:aw1 P ⟨dst,.index e x i,ty,pos,after,g⟩ K1 env σ=Om ((Zat P e (Va env.t x) (Va env.t i)).map (·,σ)) K1:=(rfl)
theorem Xcn {x:Operand} {i:Nat}:aw1 P ⟨dst,.extract x i,ty,pos,after,g⟩ K1 env σ=Om ((Uao (Va env.t x) i).map (·,σ)) K1:=(rfl)
theorem Wbg {b:Builtin} {args:Array Operand} {ts:Array TypeId}:aw1 P ⟨dst,.call { callee:=.builtin b,args:=args,argTypes:=ts },ty,pos,after,g⟩ K1 env σ=Om (Zam P b ts (args.toList.map (Va env.t)) σ) K1:=(rfl)
def Oa (P:Program) (f:AV) (args:List AV) (σ:Za) (K:AV→Za→Prop):Prop:=match f with
 | .fn (.func g) first caps=>ACalls P g (first++args++caps) σ K
 | .yld r=>AYield P r args σ K
 | _=>False
@[congr] theorem Zfl {f f':AV} {args args':List AV} (h:f=f') (h2:args=args') (h3:σ=σ'):Oa P f args σ K1=Oa P f' args' σ' K1:=by rw [h,h2,h3]
theorem Wew {f:FuncId} {xs args ys:List AV}:Oa P (.fn (.func f) xs ys) args σ K1=@StA _ P f (xs++args++ys) σ ⟨K1⟩:=(rfl)
theorem Xdq {r:Nat} {args:List AV}:Oa P (.yld r) args σ K1=@StY _ P r args σ ⟨K1⟩:=(rfl)
theorem Zbi {f:Operand} {args:Array Operand} {ts:Array TypeId}:aw1 P ⟨dst,.call { callee:=.value f,args:=args,argTypes:=ts },ty,pos,after,g⟩ K1 env σ=Oa P (Va env.t f) (args.toList.map (Va env.t)) σ K1:=(rfl)
end one
attribute [simp] Vdh Wd2 Ve2 Zeb Xap Xcr Vds Uey Wew Xdq Zei Vcw Uev Ydo Udk Wdh Ydc Yf Ud Ydh Udq Wdk Zdx Ue4 Yc5 Pk Vk Wan
attribute [simp] Ybu Uco Ub6 Wa8 Vbz Wcb Ycl Yb0 Ubr Wbv Wcm Wb1 Wca Ye0 Xb6 Xck Ucg Vct Vdz Vb4 Ucd Zb6 Vce Ycg Vci Xcn Wbg Zbi
end congrs
theorem Zcn (a b:Int):(a == b)=decide (a=b):=by rw [Bool.eq_iff_iff];simp
theorem Wd8 (a b:Int):(a != b)=!decide (a=b):=by rw [bne,Zcn]
theorem Zbu (a b:List UInt8):(a == b)=decide (a=b):=by rw [Bool.eq_iff_iff];simp
theorem Yc8 (a b:List UInt8):(a != b)=!decide (a=b):=by rw [bne,Zbu]
attribute [simp] Uan Xaz
attribute [simp] Zcn Wd8 Zbu Yc8
theorem Wc5 (l:List AV) (hk:0<l.length):∀ (n i:Nat),(List.replicate n l).flatten[i]? = if i<n*l.length then l[i % l.length]? else none:=by
 intro n
 induction n with
 | zero=>intro i;simp
 | succ n ih =>
  intro i
  rw [List.replicate_succ,List.flatten_cons,List.getElem?_append]
  by_cases h:i<l.length
  ·rw [if_pos h,if_pos (by rw [Nat.add_mul];omega),Nat.mod_eq_of_lt h]
  ·rw [if_neg h,ih,Nat.add_mul]
   by_cases h2:i - l.length<n*l.length
   ·rw [if_pos h2,if_pos (by omega),Nat.mod_eq_sub_mod (a:=i) (by omega)]
   ·rw [if_neg h2,if_neg (by omega)]
theorem Vcc {P:Program} (e:TypeId) (n:Nat):Up P e n=match tsa P e,tz P e with
 | some (k,_),some z=>if z.known=true∧z.cells.length=k∧0<k then some (List.replicate n z.cells).flatten else none
 | _,_=>none:=by
 unfold Up
 split
 ·rename_i k ag z hs hz
  rw [hs,hz]
  simp only
  by_cases hh:z.known=true∧z.cells.length=k∧0<k
  ·rw [if_pos hh,if_pos hh]
   obtain ⟨_,h2,h3⟩:=hh
   congr 1
   apply List.ext_getElem?
   intro i
   rw [Wc5 _ (by omega)]
   rw [Qzp,h2]
   by_cases hi:i<n*k
   ·rw [List.getElem?_range hi,if_pos hi,Option.map_some,List.getD_eq_getElem?_getD,Qze (by rw [h2];exact Nat.mod_lt _ h3)]
    simp
   ·rw [if_neg hi,List.getElem?_eq_none (by simpa using hi)]
    rfl
  ·rw [if_neg hh,if_neg hh]
 ·rename_i h
  split
  ·rename_i k ag z hs hz
   exact absurd hz (h k ag z hs)
  ·rfl
attribute [simp] Vcc
theorem w64 {n:Int} (h1:-9223372036854775808≤n) (h2:n≤9223372036854775807):IntKind.i64.wrap n=n:=by
 unfold IntKind.wrap
 have e1:(IntKind.bits .i64)=64:=rfl
 have e2:IntKind.signed .i64=true:=rfl
 simp only [e1,e2,Bool.true_and,decide_eq_true_eq]
 have e3:(2^64:Int)=18446744073709551616:=by decide
 have e4:(2^(64 - 1):Int)=9223372036854775808:=by decide
 rw [e3,e4]
 split<;>omega
theorem w8 {n:Int} (h1:0≤n) (h2:n≤255):IntKind.u8.wrap n=n:=by
 unfold IntKind.wrap
 have e1:(IntKind.bits .u8)=8:=rfl
 have e2:IntKind.signed .u8=false:=rfl
 simp only [e1,e2,Bool.false_and,Bool.false_eq_true,if_false]
 have e3:(2^8:Int)=256:=by decide
 rw [e3];omega
theorem Yan (c:UInt8):c.toNat<256:=c.toNat_lt
end Ab
namespace Ab
open Go Go.RowKit
variable [Mode]
variable {P:Program}
theorem Cs.mono {b:Bool} {X Y X' Y':Prop} (h:Cs b X Y) (hx:X→X') (hy:Y→Y'):Cs b X' Y':=⟨fun e=>hx (h.1 e),fun e=>hy (h.2 e)⟩
theorem AYield.mono0 {r:Nat} {args:List AV} {σ:Za} {K K':AV→Za→Prop} (h:AYield P r args σ K) (hk:∀ v s,K v s→K' v s):AYield P r args σ K':=by
 unfold AYield at h ⊢
 split at h
 ·refine ⟨h.1,h.2.mono fun e env σ hq=>?_⟩
  cases e with
  | normal =>
   simp only [QBegin] at hq ⊢
   split at hq
   ·refine ⟨hq.1,hq.2.mono fun e env σ hr=>?_⟩
    cases e with
    | normal =>
     simp only [QRound] at hr ⊢
     split at hr
     ·exact hk _ _ hr
     ·exact hr.elim
    | _=>exact hr
   ·exact hq.elim
  | _=>exact hq
 ·exact h.elim
theorem Xbt {o:Oper} {K K':AV→Za→Prop} {env:Env} {σ:Za} (h:aw1 P o K env σ) (hk:∀ v s,K v s→K' v s):aw1 P o K' env σ:=by
 unfold aw1 at h ⊢
 split at h
 ·split at h
  ·exact h.mono hk
  ·exact h.mono0 hk
  ·exact h.elim
 ·split at h
  ·exact hk _ _ h
  ·exact h.elim
theorem Wc9 {ops:List Oper}:∀ {l:List Oper} {K K':Env→Za→Prop} {env:Env} {σ:Za},aws P ops l K env σ→(∀ env s,K env s→K' env s)→aws P ops l K' env σ:=by
 intro l
 induction l with
 | nil=>intro K K' env σ h hk;exact hk _ _ h
 | cons o rest ih =>
  intro K K' env σ h hk
  unfold aws at h ⊢
  split at h
  ·exact Xbt h fun v s h=>ih h hk
  ·exact h.mono (fun h=>Xbt h fun v s h=>ih h hk) fun h=>ih h hk
  ·exact h.elim
theorem Uc5 {rd:Option Nat} (c:Code):∀ {Q Q':Exit→Env→Za→Prop} {env:Env} {σ:Za},awp P rd c Q env σ→(∀ e env s,Q e env s→Q' e env s)→awp P rd c Q' env σ:=by
 induction c with
 | skip=>intro Q Q' env σ h hq;exact hq _ _ _ h
 | label l=>intro Q Q' env σ h hq;exact hq _ _ _ h
 | exit id=>intro Q Q' env σ h hq;exact hq _ _ _ h
 | goto l=>intro Q Q' env σ h hq;exact hq _ _ _ h
 | ret=>intro Q Q' env σ h hq;exact hq _ _ _ h
 | region id ops draw =>
  intro Q Q' env σ h hq
  cases draw with
  | false=>exact Wc9 (l:=ops.toList) h fun env s h=>hq _ _ _ h
  | true=>exact ACode.mono h hq
 | seq x y ihx ihy =>
  intro Q Q' env σ h hq
  refine ihx (Q:=Zc (awp P rd y Q) Q) h fun e env s h=>?_
  cases e with
  | normal=>exact ihy h hq
  | _=>exact hq _ _ _ h
 | cond t x y ihx ihy =>
  intro Q Q' env σ h hq
  unfold awp at h ⊢
  split at h
  ·exact h.mono (fun h=>ihx h hq) fun h=>ihy h hq
  ·exact h.elim
 | block id x ih =>
  intro Q Q' env σ h hq
  refine ih (Q:=Wc id Q) h fun e env s h=>?_
  cases e with
  | exit id' =>
   simp only [Wc] at h ⊢
   split at h
   ·rename_i e;rw [if_pos e];exact hq _ _ _ h
   ·rename_i e;rw [if_neg e];exact hq _ _ _ h
  | _=>exact hq _ _ _ h
 | _=>intro Q Q' env σ h hq;exact ACode.mono h hq
theorem Xn {rd:Option Nat} {c:Code} (I:Env→Za→Prop) {N:Env→Za→Prop} {Q:Exit→Env→Za→Prop} {env:Env} {σ:Za} (head:awp P rd c (Zc I Q) env σ) (tail:∀ env σ,I env σ→N env σ):awp P rd c (Zc N Q) env σ :=
 Uc5 c head fun e env s h=>by
  cases e with
  | normal=>exact tail _ _ h
  | _=>exact h
end Ab

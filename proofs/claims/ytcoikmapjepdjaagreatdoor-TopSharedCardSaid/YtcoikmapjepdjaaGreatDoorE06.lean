/-
  Texts packed for a claim.
-/
import Derived.Test.YtcoikmapjepdjaaGreatDoorE00
import Derived.Test.YtcoikmapjepdjaaGreatDoorE03
import Derived.Test.YtcoikmapjepdjaaGreatDoorE05
set_option linter.all false
namespace Ab
open Go Go.RowKit
variable [Mode]
universe u
attribute [simp] Xdg Wb7 Xdf Xec Zdp Xha Vgt Yd2 Udt Uf9 Xeb Zer Ude Yco Zfo Ydc Zd1 Ugk Xem Ugh Ye1 Yat Udc Ycb Ydv
attribute [simp] Xaw Zar Za4 Ya2 Vu Vaq abstr Wab Zat Zas Yav Xan Yag Xam Ya0 Ym Yr Uam Uan Zw Zau Ye0 Zdu Wd6 Yec Xfv Udm Xdk Xgi
attribute [simp] Xa0 Vap Uap Xap Wap Zaq Yy Uad Vab Vx Xad Wx rd wr sub Xa Wr Ud Yas Wh Zt
class Hd (α:Sort u) where
 v:α
def StA (P:Program) (f:FuncId) (args:List AV) (σ:Za) [R:Hd (AV→Za→Prop)]:Prop:=ACalls P f args σ R.v
def StY (P:Program) (r:Nat) (args:List AV) (σ:Za) [R:Hd (AV→Za→Prop)]:Prop:=AYield P r args σ R.v
def StC (P:Program) (rd:Option Nat) [c:Hd Code] [Q:Hd (Exit→Env→Za→Prop)] (env:Env) (σ:Za):Prop:=ACode P rd c.v Q.v env σ
def CsT (b:Bool) [X:Hd Prop] [Y:Hd Prop]:Prop:=Cs b X.v Y.v
theorem Wd {P:Program} {rd:Option Nat} {c:Code} {Q:Exit→Env→Za→Prop} {env:Env} {σ:Za} (I:Env→Za→Prop) (μ:Env→Za→Nat) (h0:I env σ)
  (round:∀ env σ,I env σ→awp P rd c (Wb (fun env' σ'=>I env' σ'∧μ env' σ'<μ env σ) Q) env σ):@StC _ P rd ⟨.loop c⟩ ⟨Q⟩ env σ:=Yc6 I μ h0 round
theorem CsT.intro {b:Bool} {X Y:Prop} (h:b=true→X) (h':b=false→Y):@CsT b ⟨X⟩ ⟨Y⟩:=⟨h,h'⟩
theorem StA.of {P:Program} {f:FuncId} {args:List AV} {σ:Za} {R:AV→Za→Prop} (h:ACalls P f args σ R):@StA _ P f args σ ⟨R⟩:=h
theorem Yh0 (X Y:Hd Prop):@CsT true X Y=X.v:=by simp [CsT,Cs]
theorem Xhd (X Y:Hd Prop):@CsT false X Y=Y.v:=by simp [CsT,Cs]
section congrs
variable {P:Program} {rd:Option Nat} {c:Code} {Q:Exit→Env→Za→Prop} {N K:Env→Za→Prop} {env env':Env} {σ σ':Za} {ops l:List Oper} {o:Oper} {e:Exit}
@[congr] theorem Yij (h:env=env') (h':σ=σ'):ACode P rd c Q env σ=ACode P rd c Q env' σ':=by rw [h,h']
@[congr] theorem Yip (h:env=env') (h':σ=σ'):awp P rd c Q env σ=awp P rd c Q env' σ':=by rw [h,h']
@[congr] theorem Uit (h:env=env') (h':σ=σ'):aws P ops l K env σ=aws P ops l K env' σ':=by rw [h,h']
@[congr] theorem Zij {K:AV→Za→Prop} (h:env=env') (h':σ=σ'):aw1 P o K env σ=aw1 P o K env' σ':=by rw [h,h']
@[congr] theorem Wii (h:env=env') (h':σ=σ'):Wb N Q e env σ=Wb N Q e env' σ':=by rw [h,h']
@[congr] theorem Uia {id:Nat} (h:env=env') (h':σ=σ'):Vb id Q e env σ=Vb id Q e env' σ':=by rw [h,h']
@[congr] theorem Xh9 {fn:Func} {R:AV→Za→Prop} (h:env=env') (h':σ=σ'):QFn P fn R e env σ=QFn P fn R e env' σ':=by rw [h,h']
@[congr] theorem Zig {f:FuncId} {args args':List AV} {R:AV→Za→Prop} (h:args=args') (h':σ=σ'):ACalls P f args σ R=ACalls P f args' σ' R:=by rw [h,h']
@[congr] theorem Zik {t t':List AV} {g:Option (Nat × Bool)} (h:t=t'):Wm ops t g=Wm ops t' g:=by rw [h]
@[congr] theorem Uik {b b':Bool} {X Y:Prop} (h:b=b'):Cs b X Y=Cs b' X Y:=by rw [h]
def Om (r:Option (AV × Za)) (K:AV→Za→Prop):Prop:=match r with
 | some (v,s)=>K v s
 | none=>False
@[congr] theorem Viv {r r':Option (AV × Za)} {K:AV→Za→Prop} (h:r=r'):Om r K=Om r' K:=by rw [h]
theorem Wl (v:AV) (s:Za) (K:AV→Za→Prop):Om (some (v,s)) K=K v s:=(rfl)
theorem Xdl (K:AV→Za→Prop):Om none K=False:=(rfl)
def Og (P:Program) (ops:List Oper) (o:Oper) (rest:List Oper) (K:Env→Za→Prop) (env:Env) (σ:Za) (g:Option (Option (Option Tmp × Bool × Bool))):Prop:=match g with
 | some none=>aw1 P o (fun v σ'=>aws P ops rest K (env.put o.dst v) σ') env σ
 | some (some (d,b,want))=>Cs (b == want) (aw1 P o (fun v σ'=>aws P ops rest K ((env.known d want).put o.dst v) σ') (env.known d want) σ) (aws P ops rest K ((env.known d (!want)).put o.dst (.tup [])) σ)
 | none=>False
@[congr] theorem Zir {g g':Option (Option (Option Tmp × Bool × Bool))} (h:g=g'):Og P ops o l K env σ g=Og P ops o l K env σ g':=by rw [h]
theorem Ve5 {d:Option Tmp} {b want:Bool}:Og P ops o l K env σ (some (some (d,b,want)))=@CsT (b == want) ⟨aw1 P o (fun v σ'=>aws P ops l K ((env.known d want).put o.dst v) σ') (env.known d want) σ⟩ ⟨aws P ops l K ((env.known d (!want)).put o.dst (.tup [])) σ⟩:=(rfl)
theorem Zhd:awp P rd .skip Q env σ=Q .normal env σ:=(rfl)
theorem Zgk {n:Nat}:awp P rd (.label n) Q env σ=Q .normal env σ:=(rfl)
theorem Xd2 {n:Nat}:awp P rd (.exit n) Q env σ=Q (.exit n) env σ:=(rfl)
theorem Ug1 {n:Nat}:awp P rd (.goto n) Q env σ=Q (.goto n) env σ:=(rfl)
theorem Yc8:awp P rd .ret Q env σ=Q .ret env σ:=(rfl)
theorem Xfw {id:Nat}:awp P rd (.region id l.toArray false) Q env σ=aws P l l (Q .normal) env σ:=(rfl)
theorem Xf2 {id:Nat} {a:Array Oper}:awp P rd (.region id a true) Q env σ=@StC _ P rd ⟨.region id a true⟩ ⟨Q⟩ env σ:=(rfl)
theorem Zgi {a b:Code}:awp P rd (.seq a b) Q env σ=awp P rd a (Wb (awp P rd b Q) Q) env σ:=(rfl)
def Oc (x:AV) (X Y:Prop):Prop:=match x with
 | .bool p=>Cs p X Y
 | _=>False
@[congr] theorem Vis {x x':AV} {X Y:Prop} (h:x=x'):Oc x X Y=Oc x' X Y:=by rw [h]
theorem Vg8 {p:Bool} {X Y:Prop}:Oc (.bool p) X Y=@CsT p ⟨X⟩ ⟨Y⟩:=(rfl)
theorem Yf7 {x:Operand} {a b:Code}:awp P rd (.cond x a b) Q env σ=Oc (Wa env.t x) (awp P rd a Q (env.op x true) σ) (awp P rd b Q (env.op x false) σ):=(rfl)
theorem Whu {id:Nat} {a:Code}:awp P rd (.block id a) Q env σ=awp P rd a (Vb id Q) env σ:=(rfl)
theorem Yhw {a:Code}:awp P rd (.loop a) Q env σ=@StC _ P rd ⟨.loop a⟩ ⟨Q⟩ env σ:=(rfl)
theorem Whv {f:Operand} {ps:Array Tmp} {a b:Code}:awp P rd (.rangeFunc f ps a b) Q env σ=@StC _ P rd ⟨.rangeFunc f ps a b⟩ ⟨Q⟩ env σ:=(rfl)
theorem Veq:aws P ops [] K env σ=K env σ:=(rfl)
section one
variable {dst:Option Tmp} {ty:TypeId} {pos:String} {after:Array Edge} {op:Op} {K1:AV→Za→Prop}
theorem Yfr:aws P ops (⟨dst,op,ty,pos,after,none⟩::l) K env σ=aw1 P ⟨dst,op,ty,pos,after,none⟩ (fun v σ'=>aws P ops l K (env.put dst v) σ') env σ:=(rfl)
theorem Vcs {j:Nat} {w:Bool}:aws P ops (⟨dst,op,ty,pos,after,some (j,w)⟩::l) K env σ=Og P ops ⟨dst,op,ty,pos,after,some (j,w)⟩ l K env σ (Wm ops env.t (some (j,w))):=(rfl)
variable {g:Option (Nat × Bool)}
theorem Zck {x:Operand}:aw1 P ⟨dst,.move x,ty,pos,after,g⟩ K1 env σ=K1 (Wa env.t x) σ:=(rfl)
theorem Vb3 {x:Operand}:aw1 P ⟨dst,.assign x,ty,pos,after,g⟩ K1 env σ=K1 (Wa env.t x) σ:=(rfl)
def Pk (c x y:AV):Option AV:=match c with
 | .bool p=>some (if p then x else y)
 | _=>none
theorem Xbu {c x y:Operand}:aw1 P ⟨dst,.pick c x y,ty,pos,after,g⟩ K1 env σ=Om ((Pk (Wa env.t c) (Wa env.t x) (Wa env.t y)).map (·,σ)) K1:=by
 simp only [aw1,aop,Om,Pk]
 cases Wa env.t c<;>rfl
theorem Xa8 {e:TypeId}:aw1 P ⟨dst,.alloc e,ty,pos,after,g⟩ K1 env σ=Om ((tz P e).bind fun z=>Wx z σ) K1:=(rfl)
theorem Wb9 {e:TypeId} {x:Operand}:aw1 P ⟨dst,.box e x,ty,pos,after,g⟩ K1 env σ=Om (Wx (Wa env.t x) σ) K1:=(rfl)
theorem Ybt {e:TypeId} {ps:Array (Nat × Operand)}:aw1 P ⟨dst,.build e ps,ty,pos,after,g⟩ K1 env σ=Om ((Xe P e (ps.toList.map fun p=>(p.1,Wa env.t p.2))).map (·,σ)) K1:=(rfl)
theorem Ucd {e:TypeId} {n:Nat} {ps:Array (Nat × Operand)}:aw1 P ⟨dst,.buildSlice e n ps,ty,pos,after,g⟩ K1 env σ=Om (Vab P e n (ps.toList.map fun p=>(p.1,Wa env.t p.2)) σ) K1:=(rfl)
theorem Yce {e:TypeId} {x:Operand}:aw1 P ⟨dst,.load e x,ty,pos,after,g⟩ K1 env σ=Om ((Vx P e (Wa env.t x) σ).map (·,σ)) K1:=(rfl)
theorem Xbl {e:TypeId} {x y:Operand}:aw1 P ⟨dst,.store e x y,ty,pos,after,g⟩ K1 env σ=Om ((Xad P e (Wa env.t x) (Wa env.t y) σ).map (AV.any,·)) K1:=(rfl)
theorem Wcm {x:Operand}:aw1 P ⟨dst,.nilCheck x,ty,pos,after,g⟩ K1 env σ=Om ((Zae (Wa env.t x)).map (·,σ)) K1:=(rfl)
theorem Ybv {b:BinOp} {xt yt:TypeId} {x y:Operand}:aw1 P ⟨dst,.binOp b xt x y yt,ty,pos,after,g⟩ K1 env σ=Om ((Yan P b xt y (Wa env.t x) (Wa env.t y)).map (·,σ)) K1:=(rfl)
theorem Zcg {b:UnOp} {xt:TypeId} {x:Operand}:aw1 P ⟨dst,.unOp b xt x,ty,pos,after,g⟩ K1 env σ=Om ((aun b (Wa env.t x)).map (·,σ)) K1:=(rfl)
theorem Xb0 {s d:TypeId} {x:Operand}:aw1 P ⟨dst,.convert s d x,ty,pos,after,g⟩ K1 env σ=Om (Zai P s d (Wa env.t x) σ) K1:=(rfl)
theorem Zfi {e:TypeId} {x y:Operand}:aw1 P ⟨dst,.makeSlice e x y,ty,pos,after,g⟩ K1 env σ=Om (Vaq P e (Wa env.t x) (Wa env.t y) σ) K1:=(rfl)
theorem Xck {e:TypeId}:aw1 P ⟨dst,.makeMap e none,ty,pos,after,g⟩ K1 env σ=Om (Xan P e σ) K1:=(rfl)
theorem Wbr {e:TypeId} {x y:Operand} {ok:Bool}:aw1 P ⟨dst,.lookup e x y ok,ty,pos,after,g⟩ K1 env σ=Om ((Yag P e (Wa env.t x) (Wa env.t y) ok σ).map (·,σ)) K1:=(rfl)
theorem Ych {e:TypeId} {m x y:Operand}:aw1 P ⟨dst,.mapUpdate e m x y,ty,pos,after,g⟩ K1 env σ=Om ((Xam P e (Wa env.t m) (Wa env.t x) (Wa env.t y) σ).map (AV.any,·)) K1:=(rfl)
theorem Zdv {e:TypeId} {x:Operand}:aw1 P ⟨dst,.range e x,ty,pos,after,g⟩ K1 env σ=Om (Zas P e (Wa env.t x) σ) K1:=(rfl)
theorem Wd0 {x:Operand} {b:Bool}:aw1 P ⟨dst,.next x b,ty,pos,after,g⟩ K1 env σ=Om (Yav (Wa env.t x) b σ) K1:=(rfl)
theorem Xcl {f:Fn} {xs ys:Array Operand}:aw1 P ⟨dst,.makeFunc f xs ys,ty,pos,after,g⟩ K1 env σ=K1 (.fn f (xs.toList.map (Wa env.t)) (ys.toList.map (Wa env.t))) σ:=(rfl)
theorem Xcn {e:TypeId} {x:Operand} {lo hi mx:Option Operand}:aw1 P ⟨dst,.slice e x lo hi mx,ty,pos,after,g⟩ K1 env σ=Om ((Xv P e (Wa env.t x) (lo.map (Wa env.t)) (hi.map (Wa env.t)) (mx.map (Wa env.t)) σ).map (·,σ)) K1:=(rfl)
theorem Vbz {e:TypeId} {x:Operand} {i:Nat}:aw1 P ⟨dst,.fieldAddr e x i,ty,pos,after,g⟩ K1 env σ=Om ((Uap P e (Wa env.t x) i).map (·,σ)) K1:=(rfl)
theorem Wcd {e:TypeId} {x:Operand} {i:Nat}:aw1 P ⟨dst,.field e x i,ty,pos,after,g⟩ K1 env σ=Om ((Vap P e (Wa env.t x) i).map (·,σ)) K1:=(rfl)
theorem Ubx {e:TypeId} {x i:Operand}:aw1 P ⟨dst,.indexAddr e x i,ty,pos,after,g⟩ K1 env σ=Om ((Wap P e (Wa env.t x) (Wa env.t i)).map (·,σ)) K1:=(rfl)
theorem Zbt {e:TypeId} {x i:Operand}:aw1 P ⟨dst,.index e x i,ty,pos,after,g⟩ K1 env σ=Om ((Xap P e (Wa env.t x) (Wa env.t i)).map (·,σ)) K1:=(rfl)
theorem Yb3 {x:Operand} {i:Nat}:aw1 P ⟨dst,.extract x i,ty,pos,after,g⟩ K1 env σ=Om ((Zaq (Wa env.t x) i).map (·,σ)) K1:=(rfl)
theorem Wbf {b:Builtin} {args:Array Operand} {ts:Array TypeId}:aw1 P ⟨dst,.call { callee:=.builtin b,args:=args,argTypes:=ts },ty,pos,after,g⟩ K1 env σ=Om (Wak P b ts (args.toList.map (Wa env.t)) σ) K1:=(rfl)
def Oa (P:Program) (f:AV) (args:List AV) (σ:Za) (K:AV→Za→Prop):Prop:=match f with
 | .fn (.func g) first caps=>ACalls P g (first++args++caps) σ K
 | .yld r=>AYield P r args σ K
 | _=>False
@[congr] theorem Viu {f f':AV} {args args':List AV} (h:f=f') (h2:args=args') (h3:σ=σ'):Oa P f args σ K1=Oa P f' args' σ' K1:=by rw [h,h2,h3]
theorem Yd7 {f:FuncId} {xs args ys:List AV}:Oa P (.fn (.func f) xs ys) args σ K1=@StA _ P f (xs++args++ys) σ ⟨K1⟩:=(rfl)
theorem Vee {r:Nat} {args:List AV}:Oa P (.yld r) args σ K1=@StY _ P r args σ ⟨K1⟩:=(rfl)
theorem Xbp {f:Operand} {args:Array Operand} {ts:Array TypeId}:aw1 P ⟨dst,.call { callee:=.value f,args:=args,argTypes:=ts },ty,pos,after,g⟩ K1 env σ=Oa P (Wa env.t f) (args.toList.map (Wa env.t)) σ K1:=(rfl)
end one
attribute [simp] Zeb Udy Yh0 Xhd Wl Xdl Ve5 Vg8 Yd7 Vee Zhd Zgk Xd2 Ug1 Yc8 Xfw Xf2 Zgi Yf7 Whu Yhw Whv Veq Yfr Vcs Pk Zai Van
attribute [simp] Zck Vb3 Xbu Xa8 Wb9 Ybt Ucd Yce Xbl Wcm Ybv Zcg Xb0 Zfi Xck Wbr Ych Zdv Wd0 Xcl Xcn Vbz Wcd Ubx Zbt Yb3 Wbf Xbp
end congrs
theorem Vb6 (a b:Int):(a == b)=decide (a=b):=by rw [Bool.eq_iff_iff];simp
theorem Wdv (a b:Int):(a != b)=!decide (a=b):=by rw [bne,Vb6]
theorem Ubt (a b:List UInt8):(a == b)=decide (a=b):=by rw [Bool.eq_iff_iff];simp
theorem Yd3 (a b:List UInt8):(a != b)=!decide (a=b):=by rw [bne,Ubt]
attribute [simp] Yan Uar
attribute [simp] Vb6 Wdv Ubt Yd3
theorem Xf3 (l:List AV) (hk:0<l.length):∀ (n i:Nat),(List.replicate n l).flatten[i]? = if i<n*l.length then l[i % l.length]? else none:=by
 intro n
 induction n with
 | zero=>intro i;simp
 | succ n ih =>
  intro i
  rw [List.replicate_succ,List.flatten_cons,List.getElem?_append]
  by_cases h:i<l.length
  ·rw [if_pos h,if_pos (by rw [Nat.add_mul];omega),Nat.mod_eq_of_lt h]
  ·rw [if_neg h,ih,Nat.add_mul]
   by_cases h2:i - l.length<n*l.length
   ·rw [if_pos h2,if_pos (by omega),Nat.mod_eq_sub_mod (a:=i) (by omega)]
   ·rw [if_neg h2,if_neg (by omega)]
theorem Zb2 {P:Program} (e:TypeId) (n:Nat):Xs P e n=match tsa P e,tz P e with
 | some (k,_),some z=>if z.known=true∧z.cells.length=k∧0<k then some (List.replicate n z.cells).flatten else none
 | _,_=>none:=by
 unfold Xs
 split
 ·rename_i k ag z hs hz
  rw [hs,hz]
  simp only
  by_cases hh:z.known=true∧z.cells.length=k∧0<k
  ·rw [if_pos hh,if_pos hh]
   obtain ⟨_,h2,h3⟩:=hh
   congr 1
   apply List.ext_getElem?
   intro i
   rw [Xf3 _ (by omega)]
   rw [Qzp,h2]
   by_cases hi:i<n*k
   ·rw [List.getElem?_range hi,if_pos hi,Option.map_some,List.getD_eq_getElem?_getD,Qze (by rw [h2];exact Nat.mod_lt _ h3)]
    simp
   ·rw [if_neg hi,List.getElem?_eq_none (by simpa using hi)]
    rfl
  ·rw [if_neg hh,if_neg hh]
 ·rename_i h
  split
  ·rename_i k ag z hs hz
   exact absurd hz (h k ag z hs)
  ·rfl
attribute [simp] Zb2
theorem w64 {n:Int} (h1:-9223372036854775808≤n) (h2:n≤9223372036854775807):IntKind.i64.wrap n=n:=by
 unfold IntKind.wrap
 have e1:(IntKind.bits .i64)=64:=rfl
 have e2:IntKind.signed .i64=true:=rfl
 simp only [e1,e2,Bool.true_and,decide_eq_true_eq]
 have e3:(2^64:Int)=18446744073709551616:=by decide
 have e4:(2^(64 - 1):Int)=9223372036854775808:=by decide
 rw [e3,e4]
 split<;>omega
theorem w8 {n:Int} (h1:0≤n) (h2:n≤255):IntKind.u8.wrap n=n:=by
 unfold IntKind.wrap
 have e1:(IntKind.bits .u8)=8:=rfl
 have e2:IntKind.signed .u8=false:=rfl
 simp only [e1,e2,Bool.false_and,Bool.false_eq_true,if_false]
 have e3:(2^8:Int)=256:=by decide
 rw [e3];omega
end Ab

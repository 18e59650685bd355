/-
  Texts packed for a claim.
-/
import Derived.Test.YtcoikmapjepdjaaGreatDoorE00
import Derived.RangeFuncLeaves
import Derived.RangeFuncCalls
import Derived.OrdersIn
import Derived.Test.YtcoikmapjepdjaaGreatDoorE02
set_option linter.all false
namespace Ab
open Go Go.RowKit
variable [Mode]
variable {P:Program}
def WF (ro:Option Nat):Fence:={ fn:=fun _=>True,depth:=none,alive:=false,round:=ro }
def Wak (P:Program) (b:Builtin) (ts:Array TypeId) (args:List AV) (σ:Za):Option (AV × Za) :=
 match b,args with
 | .len,[x]=>(match ts.toList with
  | [t]=>(Xa0 P t x σ).map (·,σ)
  | _=>none)
 | .append,[x,y]=>(match y with
  | .int _ m=>Xaw P ts x m σ
  | _=>Xa P ts x y σ)
 | .copy,[x,y]=>(match Zar P ts x y σ with
  | some r=>some r
  | none=>Za4 P ts x y σ)
 | .cap,[x]=>(match ts.toList with
  | [t]=>(Ya2 P t x).map (·,σ)
  | _=>none)
 | .clear,[x]=>Vu P ts x σ
 | .delete,[x,y]=>Ya0 P ts x y σ
 | .min,[x,y]=>(Zat false x y).map (·,σ)
 | .max,[x,y]=>(Zat true x y).map (·,σ)
 | _,_=>none
def Zae (x:AV):Option AV :=
 match x with
 | .ptr _ _=>some x
 | .pp _ _ _ _=>some x
 | .gl _=>some x
 | .fn (.func f) a b=>some (.fn (.func f) a b)
 | .fn (.yield l) a b=>some (.fn (.yield l) a b)
 | .iface _ _=>some x
 | _=>none
def Zai (P:Program) (s d:TypeId) (x:AV) (σ:Za):Option (AV × Za) :=
 match x with
 | .pl k l=>(abstr P s d (.pl k l) σ).map (·,σ)
 | .arr k r off n=>(abstr P s d (.arr k r off n) σ).map (·,σ)
 | .str b=>if Van P s d then some (.arr 1 σ.length 0 b.length,σ++[.cells (b.map fun c=>AV.int .u8 c.toNat)]) else (Uad P s d (.str b)).map (·,σ)
 | y=>(Uad P s d y).map (·,σ)
def aop (P:Program) (t:List AV) (σ:Za) (o:Oper):Option (AV × Za) :=
 match o.op with
 | .move x=>some (Wa t x,σ)
 | .assign x=>some (Wa t x,σ)
 | .pick c a b=>(match Wa t c with
  | .bool p=>some (if p then Wa t a else Wa t b,σ)
  | _=>none)
 | .alloc e=>(tz P e).bind fun z=>Wx z σ
 | .box _ x=>Wx (Wa t x) σ
 | .build ty ps=>(Xe P ty (ps.toList.map fun p=>(p.1,Wa t p.2))).map (·,σ)
 | .buildSlice ty n ps=>Vab P ty n (ps.toList.map fun p=>(p.1,Wa t p.2)) σ
 | .load ty a=>(Vx P ty (Wa t a) σ).map (·,σ)
 | .store ty a x=>(Xad P ty (Wa t a) (Wa t x) σ).map (AV.any,·)
 | .nilCheck x=>(Zae (Wa t x)).map (·,σ)
 | .binOp op xt x y _=>(Yan P op xt y (Wa t x) (Wa t y)).map (·,σ)
 | .unOp op _ x=>(aun op (Wa t x)).map (·,σ)
 | .convert s d x=>Zai P s d (Wa t x) σ
 | .makeSlice ty l c=>Vaq P ty (Wa t l) (Wa t c) σ
 | .makeMap ty none=>Xan P ty σ
 | .lookup ty x i ok=>(Yag P ty (Wa t x) (Wa t i) ok σ).map (·,σ)
 | .mapUpdate ty m k x=>(Xam P ty (Wa t m) (Wa t k) (Wa t x) σ).map (AV.any,·)
 | .range ty x=>Zas P ty (Wa t x) σ
 | .next x s=>Yav (Wa t x) s σ
 | .makeFunc f xs ys=>some (.fn f (xs.toList.map (Wa t)) (ys.toList.map (Wa t)),σ)
 | .slice ty x lo hi mx=>(Xv P ty (Wa t x) (lo.map (Wa t)) (hi.map (Wa t)) (mx.map (Wa t)) σ).map (·,σ)
 | .fieldAddr ty x i=>(Uap P ty (Wa t x) i).map (·,σ)
 | .field ty x i=>(Vap P ty (Wa t x) i).map (·,σ)
 | .indexAddr ty x i=>(Wap P ty (Wa t x) (Wa t i)).map (·,σ)
 | .index ty x i=>(Xap P ty (Wa t x) (Wa t i)).map (·,σ)
 | .extract x i=>(Zaq (Wa t x) i).map (·,σ)
 | .call { callee:=.builtin b,args,argTypes }=>Wak P b argTypes (args.toList.map (Wa t)) σ
 | _=>none
theorem VRs.map {C:Ctx} {env:Env} {a:Act} (he:ER C env a) (xs:List Operand):VRs C (xs.map (Wa env.t)) (xs.map a.eval) :=
 ⟨by simp,fun i x c hx hc=>by
  simp [Qzp] at hx hc
  obtain ⟨y,hy,rfl⟩:=hx
  obtain ⟨z,hz,rfl⟩:=hc
  rw [hy] at hz
  obtain rfl:y=z:=by simpa using hz
  exact he.eval y⟩
theorem VO.map {C:Ctx} {env:Env} {a:Act} (he:ER C env a) (x:Option Operand):VO C (x.map (Wa env.t)) (x.map a.eval) :=
 ⟨fun v hv=>by
  cases x with
  | none=>cases hv
  | some y=>simp at hv;subst hv;exact ⟨_,rfl,he.eval y⟩,fun h=>by cases x with
  | none=>rfl
  | some y=>cases h⟩
theorem VP.map {C:Ctx} {env:Env} {a:Act} (he:ER C env a) (ps:Array (Nat × Operand)):VP C (ps.toList.map fun p=>(p.1,Wa env.t p.2)) (ps.map fun (i,x)=>(i,a.eval x)).toList :=
 ⟨by simp,fun i p q hp hq=>by
  simp [Qzp] at hp hq
  obtain ⟨y1,y2,hy,rfl⟩:=hp
  obtain ⟨z1,z2,hz,rfl⟩:=hq
  rw [hy] at hz
  obtain ⟨rfl,rfl⟩:y1=z1∧y2=z2:=by simpa using hz
  exact ⟨rfl,he.eval y2⟩⟩
def Ran (C:Ctx) (r:Result Next) (v:AV) (σ':Za):Prop :=
 ∃ C':Ctx,Ext C C'∧Inv C' σ'∧((∃ c,r=.ok (.value c) C'.w∧VR C' v c)∨(r=.ok .skip C'.w∧v=.any))
theorem Ran.pure {C:Ctx} {σ:Za} (hI:Inv C σ) {v:AV} {r:Result Next} (h:∃ c,r=.ok (.value c) C.w∧VR C v c):Ran C r v σ:=⟨C,Ext.refl C,hI,.inl h⟩
theorem Zk {α:Type} {x:Option AV} {σ σ':Za} {v:AV} (h:x.map (·,σ)=some (v,σ')):x=some v∧σ'=σ:=by
 rw [Qzm] at h
 obtain ⟨y,hy,h⟩:=h
 simp only [Prod.mk.injEq] at h
 exact ⟨by rw [hy,h.1],h.2.symm⟩
theorem Xc8 {C:Ctx} {env:Env} {a:Act} {σ σ':Za} {o:Oper} {v:AV} (hI:Inv C σ) (he:ER C env a) (h:aop P env.t σ o=some (v,σ')):Ran C ((execOp a.eval o).run P C.w) v σ':=by
 obtain ⟨dst,op,ty,pos,after,guard⟩:=o
 cases op<;>simp only [aop,reduceCtorEq] at h
 case move x =>
  simp only [Option.some.injEq,Prod.mk.injEq] at h;obtain ⟨rfl,rfl⟩:=h
  exact .pure hI ⟨_,rfl,he.eval x⟩
 case assign x =>
  simp only [Option.some.injEq,Prod.mk.injEq] at h;obtain ⟨rfl,rfl⟩:=h
  exact .pure hI ⟨_,rfl,he.eval x⟩
 case pick c x y =>
  have hc:=he.eval c
  split at h
  ·rename_i p hp
   simp only [Option.some.injEq,Prod.mk.injEq] at h;obtain ⟨rfl,rfl⟩:=h
   rw [hp] at hc
   refine .pure hI ⟨if p then a.eval x else a.eval y,?_,?_⟩
   ·simp only [execOp,hc.bool_inv,asBool];rfl
   ·cases p
    ·exact he.eval y
    ·exact he.eval x
  ·cases h
 case alloc e =>
  rw [Option.bind_eq_some_iff] at h
  obtain ⟨z,hz,h⟩:=h
  obtain ⟨zv,hzr,hzv⟩:=Xat hz
  obtain ⟨C',cp,⟨hr,rfl⟩,hE,hI',hv⟩:=Xcf (P:=P) hI (hzv C) h e
  refine ⟨C',hE,hI',.inl ⟨_,?_,hv⟩⟩
  simp only [execOp,Instr.alloc,Sem.run_bind,hzr,Result.andThen_ok,hr,Sem.run_pure]
 case box e x =>
  obtain ⟨C',cp,⟨hr,rfl⟩,hE,hI',hv⟩:=Xcf (P:=P) hI (he.eval x) h e
  refine ⟨C',hE,hI',.inl ⟨_,?_,hv⟩⟩
  simp only [execOp,Instr.box,Sem.run_bind,hr,Result.andThen_ok,Sem.run_pure]
 case build ty ps =>
  obtain ⟨g,rfl⟩:=Zk (α:=AV) h
  obtain ⟨r,hr,hv⟩:=Vcx (P:=P) (VP.map he ps) g C.w
  exact .pure hI ⟨r,by simp only [execOp,Sem.run_bind,hr,Result.andThen_ok,Sem.run_pure],hv⟩
 case buildSlice ty n ps =>
  obtain ⟨C',r,hr,hE,hI',hv⟩:=Ugl (P:=P) hI (VP.map he ps) h
  exact ⟨C',hE,hI',.inl ⟨r,by simp only [execOp,Sem.run_bind,hr,Result.andThen_ok,Sem.run_pure],hv⟩⟩
 case load ty x =>
  obtain ⟨g,rfl⟩:=Zk (α:=AV) h
  obtain ⟨r,hr,hv⟩:=Ybx (P:=P) hI (he.eval x) g
  exact .pure hI ⟨r,by simp only [execOp,Sem.run_bind,hr,Result.andThen_ok,Sem.run_pure],hv⟩
 case store ty x y =>
  rw [Qzm] at h
  obtain ⟨σ2,h,h2⟩:=h
  simp only [Prod.mk.injEq] at h2
  obtain ⟨rfl,rfl⟩:=h2
  obtain ⟨C',hr,hE,_,hI'⟩:=Xeo (P:=P) hI (he.eval x) (he.eval y) h
  exact ⟨C',hE,hI',.inr ⟨by simp only [execOp,Sem.run_bind,hr,Result.andThen_ok,Sem.run_pure],rfl⟩⟩
 case nilCheck x =>
  obtain ⟨g,rfl⟩:=Zk (α:=AV) h
  have hx:=he.eval x
  generalize Wa env.t x=ax at g hx
  refine .pure hI ⟨a.eval x,?_,?_⟩
  ·simp only [execOp]
   generalize a.eval x=cx at hx
   cases ax<;>simp only [Zae,reduceCtorEq] at g
   case fn f p q =>
    cases f<;>simp only [Zae,reduceCtorEq] at g<;>cases hx<;>rfl
   all_goals (cases hx;rfl)
  ·cases ax<;>simp only [Zae,reduceCtorEq,Option.some.injEq] at g
   case fn f p q =>
    cases f<;>simp only [Zae,reduceCtorEq,Option.some.injEq] at g<;>(subst g;exact hx)
   all_goals (subst g;exact hx)
 case binOp op xt x y yt =>
  obtain ⟨g,rfl⟩:=Zk (α:=AV) h
  obtain ⟨r,hr,hv⟩:=Vc1 (P:=P) x y (he.eval x) (he.eval y) (fun hn=>by
   unfold Uar at hn
   split at hn
   ·rfl
   ·cases hn) g C.w
  refine .pure hI ⟨r,?_,hv⟩
  simp only [Sem.run_bind] at hr
  simp only [execOp,Sem.run_bind,hr,Result.andThen_ok,Sem.run_pure]
 case unOp op xt x =>
  obtain ⟨g,rfl⟩:=Zk (α:=AV) h
  obtain ⟨r,hr,hv⟩:=Zcy (P:=P) (he.eval x) g C.w
  exact .pure hI ⟨r,by simp only [execOp,Sem.run_bind,hr,Result.andThen_ok,Sem.run_pure],hv⟩
 case convert s d x =>
  have hx:=he.eval x
  generalize Wa env.t x=ax at h hx
  have conv:(Uad P s d ax).map (·,σ)=some (v,σ')→Ran C ((execOp a.eval { dst,op:=.convert s d x,type:=ty,pos,after,guard }).run P C.w) v σ':=by
   intro h
   obtain ⟨g,rfl⟩:=Zk (α:=AV) h
   obtain ⟨r,hr,hv⟩:=Ue2 (P:=P) hx g C.w
   exact .pure hI ⟨r,by simp only [execOp,Sem.run_bind,hr,Result.andThen_ok,Sem.run_pure],hv⟩
  unfold Zai at h
  split at h
  ·obtain ⟨g,rfl⟩:=Zk (α:=AV) h
   obtain ⟨r,hr,hv⟩:=Wbt (P:=P) hI hx g
   exact .pure hI ⟨r,by simp only [execOp,Sem.run_bind,hr,Result.andThen_ok,Sem.run_pure],hv⟩
  ·obtain ⟨g,rfl⟩:=Zk (α:=AV) h
   obtain ⟨r,hr,hv⟩:=Wbt (P:=P) hI hx g
   exact .pure hI ⟨r,by simp only [execOp,Sem.run_bind,hr,Result.andThen_ok,Sem.run_pure],hv⟩
  ·split at h
   ·rename_i ht
    simp only [Option.some.injEq,Prod.mk.injEq] at h
    obtain ⟨rfl,rfl⟩:=h
    obtain ⟨C',r,hr,hE,hI',hv⟩:=Ugs (P:=P) hI hx ht
    exact ⟨C',hE,hI',.inl ⟨r,by simp only [execOp,Sem.run_bind,hr,Result.andThen_ok,Sem.run_pure],hv⟩⟩
   ·exact conv h
  ·exact conv h
 case makeSlice ty l c =>
  obtain ⟨C',r,hr,hE,hI',hv⟩:=Xes (P:=P) hI (he.eval l) (he.eval c) h
  exact ⟨C',hE,hI',.inl ⟨r,by simp only [execOp,Sem.run_bind,hr,Result.andThen_ok,Sem.run_pure],hv⟩⟩
 case makeMap ty q =>
  cases q with
  | some q=>cases h
  | none =>
   obtain ⟨C',r,hr,hE,hI',hv⟩:=Wd2 (P:=P) hI h
   exact ⟨C',hE,hI',.inl ⟨r,by simp only [execOp,Option.map_none,Sem.run_bind,hr,Result.andThen_ok,Sem.run_pure],hv⟩⟩
 case lookup ty x i ok =>
  obtain ⟨g,rfl⟩:=Zk (α:=AV) h
  obtain ⟨r,hr,hv⟩:=Ug6 (P:=P) hI (he.eval x) (he.eval i) g
  exact .pure hI ⟨r,by simp only [execOp,Sem.run_bind,hr,Result.andThen_ok,Sem.run_pure],hv⟩
 case mapUpdate ty m k x =>
  rw [Qzm] at h
  obtain ⟨σ2,h,h2⟩:=h
  simp only [Prod.mk.injEq] at h2
  obtain ⟨rfl,rfl⟩:=h2
  obtain ⟨C',hr,hE,hI'⟩:=Xgd (P:=P) hI (he.eval m) (he.eval k) (he.eval x) h
  exact ⟨C',hE,hI',.inr ⟨by simp only [execOp,Sem.run_bind,hr,Result.andThen_ok,Sem.run_pure],rfl⟩⟩
 case range ty x =>
  obtain ⟨C',r,hr,hE,hI',hv⟩:=Zd5 (P:=P) hI (he.eval x) h
  exact ⟨C',hE,hI',.inl ⟨r,by simp only [execOp,Sem.run_bind,hr,Result.andThen_ok,Sem.run_pure],hv⟩⟩
 case next x isS =>
  obtain ⟨C',r,hr,hE,hI',hv⟩:=Xeq (P:=P) (ty:=ty) hI (he.eval x) h
  exact ⟨C',hE,hI',.inl ⟨r,by simp only [execOp,Sem.run_bind,hr,Result.andThen_ok,Sem.run_pure],hv⟩⟩
 case makeFunc f xs ys =>
  simp only [Option.some.injEq,Prod.mk.injEq] at h;obtain ⟨rfl,rfl⟩:=h
  have h1:=VRs.map he xs.toList
  have h2:=VRs.map he ys.toList
  refine .pure hI ⟨.func f (xs.toList.map a.eval).toArray (ys.toList.map a.eval).toArray,?_,.fn f _ _ _ _ h1.len h2.len h1.at_ h2.at_⟩
  have e1:(xs.toList.map a.eval).toArray=xs.map a.eval:=by apply Array.ext';simp
  have e2:(ys.toList.map a.eval).toArray=ys.map a.eval:=by apply Array.ext';simp
  rw [e1,e2]
  rfl
 case slice ty x lo hi mx =>
  obtain ⟨g,rfl⟩:=Zk (α:=AV) h
  obtain ⟨r,hr,hv⟩:=Veo (P:=P) hI (he.eval x) (VO.map he lo) (VO.map he hi) (VO.map he mx) g
  exact .pure hI ⟨r,by simp only [execOp,Sem.run_bind,hr,Result.andThen_ok,Sem.run_pure],hv⟩
 case fieldAddr ty x i =>
  obtain ⟨g,rfl⟩:=Zk (α:=AV) h
  obtain ⟨r,hr,hv⟩:=Xd0 (P:=P) (he.eval x) g C.w
  exact .pure hI ⟨r,by simp only [execOp,Sem.run_bind,hr,Result.andThen_ok,Sem.run_pure],hv⟩
 case field ty x i =>
  obtain ⟨g,rfl⟩:=Zk (α:=AV) h
  obtain ⟨r,hr,hv⟩:=Whr (P:=P) (he.eval x) g C.w
  exact .pure hI ⟨r,by simp only [execOp,Sem.run_bind,hr,Result.andThen_ok,Sem.run_pure],hv⟩
 case indexAddr ty x i =>
  obtain ⟨g,rfl⟩:=Zk (α:=AV) h
  obtain ⟨r,hr,hv⟩:=Vfb (P:=P) (he.eval x) (he.eval i) g C.w
  exact .pure hI ⟨r,by simp only [execOp,Sem.run_bind,hr,Result.andThen_ok,Sem.run_pure],hv⟩
 case index ty x i =>
  obtain ⟨g,rfl⟩:=Zk (α:=AV) h
  obtain ⟨r,hr,hv⟩:=Yc5 (P:=P) (he.eval x) (he.eval i) g C.w
  exact .pure hI ⟨r,by simp only [execOp,Sem.run_bind,hr,Result.andThen_ok,Sem.run_pure],hv⟩
 case extract x i =>
  obtain ⟨g,rfl⟩:=Zk (α:=AV) h
  obtain ⟨r,hr,hv⟩:=Wdf (P:=P) (he.eval x) g C.w
  exact .pure hI ⟨r,by simp only [execOp,Sem.run_bind,hr,Result.andThen_ok,Sem.run_pure],hv⟩
 case call c =>
  obtain ⟨callee,args,ts⟩:=c
  cases callee<;>simp only [reduceCtorEq] at h
  rename_i b
  have hargs:=VRs.map he args.toList
  have hm:args.map a.eval=(args.toList.map a.eval).toArray:=by apply Array.ext';simp
  have key:∀ (r:Value) (w:World),(builtin b ts ty (args.map fun | .const _=>true | _=>false) (args.map a.eval)).run P C.w=.ok (.value r) w →
    (execOp a.eval { dst,op:=.call ⟨.builtin b,args,ts⟩,type:=ty,pos,after,guard }).run P C.w=.ok (.value r) w:=by
   intro r w h1
   simp only [execOp,Sem.run_bind,resolve,Sem.run_pure,Result.andThen_ok,invoke]
   exact h1
  rw [hm] at key
  have two:∀ (x y:AV) (cs ds:List Value),VRs C [x,y] (args.toList.map a.eval)→∃ c d,args.toList.map a.eval=[c,d]∧VR C x c∧VR C y d:=by
   intro x y cs ds hargs
   obtain ⟨c,cs,hcs,hc,hrest⟩:=hargs.inv
   obtain ⟨d,cs,rfl,hd,hrest⟩:=hrest.inv
   obtain rfl:=hrest.of_nil
   exact ⟨c,d,hcs,hc,hd⟩
  unfold Wak at h
  split at h
  ·rename_i x hx
   rw [hx] at hargs
   obtain ⟨c,cs,hcs,hc,hrest⟩:=hargs.inv
   obtain rfl:=hrest.of_nil
   split at h
   ·rename_i t ht
    obtain rfl:ts=#[t]:=Array.ext' ht
    obtain ⟨g,rfl⟩:=Zk (α:=AV) h
    obtain ⟨r,hr,hv⟩:=Xfc (P:=P) (ty:=ty) hI hc g
    refine .pure hI ⟨r,key _ _ ?_,hv⟩
    simp only [hcs,builtin,Sem.run_bind,hr,Result.andThen_ok,Sem.run_pure]
   ·cases h
  ·rename_i x y hx
   rw [hx] at hargs
   obtain ⟨c,d,hcs,hc,hd⟩:=two x y [] [] hargs
   split at h
   ·rename_i ik m
    cases hd
    obtain ⟨C',r,hr,hE,hI',hv⟩:=Yd5 (P:=P) (ty:=ty) (k2:=ik) hI hc h
    refine ⟨C',hE,hI',.inl ⟨r,key _ _ ?_,hv⟩⟩
    simp only [hcs,builtin,Sem.run_bind,hr,Result.andThen_ok,Sem.run_pure]
   ·obtain ⟨C',r,hr,hE,hI',hv⟩:=Zgf (P:=P) (ty:=ty) hI hc hd h
    refine ⟨C',hE,hI',.inl ⟨r,key _ _ ?_,hv⟩⟩
    simp only [hcs,builtin,Sem.run_bind,hr,Result.andThen_ok,Sem.run_pure]
  ·rename_i x y hx
   rw [hx] at hargs
   obtain ⟨c,d,hcs,hc,hd⟩:=two x y [] [] hargs
   cases hac:Zar P ts x y σ with
   | some q =>
    rw [hac] at h
    simp only at h
    rw [h] at hac
    obtain ⟨C',r,hr,hE,hI',hv⟩:=Zfg (P:=P) (ty:=ty) hI hc hd hac
    refine ⟨C',hE,hI',.inl ⟨r,key _ _ ?_,hv⟩⟩
    simp only [hcs,builtin,Sem.run_bind,hr,Result.andThen_ok,Sem.run_pure]
   | none =>
    rw [hac] at h
    obtain ⟨C',r,hr,hE,hI',hv⟩:=Xhu (P:=P) (ty:=ty) hI hc hd h
    refine ⟨C',hE,hI',.inl ⟨r,key _ _ ?_,hv⟩⟩
    simp only [hcs,builtin,Sem.run_bind,hr,Result.andThen_ok,Sem.run_pure]
  ·rename_i x hx
   rw [hx] at hargs
   obtain ⟨c,cs,hcs,hc,hrest⟩:=hargs.inv
   obtain rfl:=hrest.of_nil
   split at h
   ·rename_i t ht
    obtain rfl:ts=#[t]:=Array.ext' ht
    obtain ⟨g,rfl⟩:=Zk (α:=AV) h
    obtain ⟨r,hr,hv⟩:=Whi (P:=P) (ty:=ty) hc g
    refine .pure hI ⟨r,key _ _ ?_,hv⟩
    simp only [hcs,builtin,Sem.run_bind,hr,Result.andThen_ok,Sem.run_pure]
   ·cases h
  ·rename_i x hx
   rw [hx] at hargs
   obtain ⟨c,cs,hcs,hc,hrest⟩:=hargs.inv
   obtain rfl:=hrest.of_nil
   obtain ⟨C',r,hr,hE,hI',hv⟩:=Zhs (P:=P) (ty:=ty) hI hc h
   refine ⟨C',hE,hI',.inl ⟨r,key _ _ ?_,hv⟩⟩
   simp only [hcs,builtin,Sem.run_bind,hr,Result.andThen_ok,Sem.run_pure]
  ·rename_i x y hx
   rw [hx] at hargs
   obtain ⟨c,d,hcs,hc,hd⟩:=two x y [] [] hargs
   obtain ⟨C',r,hr,hE,hI',hv⟩:=Vhh (P:=P) (ty:=ty) hI hc hd h
   refine ⟨C',hE,hI',.inl ⟨r,key _ _ ?_,hv⟩⟩
   simp only [hcs,builtin,Sem.run_bind,hr,Result.andThen_ok,Sem.run_pure]
  ·rename_i x y hx
   rw [hx] at hargs
   obtain ⟨c,d,hcs,hc,hd⟩:=two x y [] [] hargs
   obtain ⟨g,rfl⟩:=Zk (α:=AV) h
   obtain ⟨r,hr,hv⟩:=Yb7 (P:=P) (ts:=ts) (ty:=ty) hc hd g C.w
   refine .pure hI ⟨r,key _ _ ?_,hv⟩
   simp only [Bool.false_eq_true,if_false] at hr
   simp only [hcs,builtin,Sem.run_bind,hr,Result.andThen_ok,Sem.run_pure]
  ·rename_i x y hx
   rw [hx] at hargs
   obtain ⟨c,d,hcs,hc,hd⟩:=two x y [] [] hargs
   obtain ⟨g,rfl⟩:=Zk (α:=AV) h
   obtain ⟨r,hr,hv⟩:=Yb7 (P:=P) (ts:=ts) (ty:=ty) hc hd g C.w
   refine .pure hI ⟨r,key _ _ ?_,hv⟩
   simp only [if_true] at hr
   simp only [hcs,builtin,Sem.run_bind,hr,Result.andThen_ok,Sem.run_pure]
  ·cases h
end Ab
namespace Ab
open Go Go.RowKit
variable [Mode]
variable {P:Program}
def Enters (P:Program) (f:FuncId):Prop:=∀ (args:Array Value) (w:World),(callFunc f args).run P w=.ok (.enter f args) w
def AEnter (P:Program) (f:FuncId) (args:List AV) (σ:Za) (R:AV→Za→Prop):Prop :=
 Enters P f∧∀ (C:Ctx) (cargs:List Value),Inv C σ→VRs C args cargs →
  CallsIn Fence.wide 0 P f cargs.toArray C.w fun e w'=>∃ (v:Value) (C':Ctx) (av:AV) (σ':Za),e=.returned v∧C'.w=w'∧Ext C C'∧Inv C' σ'∧VR C' av v∧R av σ'
theorem AEnter.mono {f:FuncId} {args:List AV} {σ:Za} {R R':AV→Za→Prop} (h:AEnter P f args σ R) (hr:∀ v σ',R v σ'→R' v σ'):AEnter P f args σ R' :=
 ⟨h.1,fun C cargs hI hv=>(h.2 C cargs hI hv).mono fun e w' ⟨v,C',av,σ',h1,h2,h3,h4,h5,h6⟩=>⟨v,C',av,σ',h1,h2,h3,h4,h5,hr _ _ h6⟩⟩
def Uda (P:Program) (f:FuncId) (args:List AV) (σ:Za) (R:AV→Za→Prop):Prop :=
 ∀ (C:Ctx) (cargs:List Value),Inv C σ→VRs C args cargs→∃ (v:Value) (C':Ctx) (av:AV) (σ':Za),(callFunc f cargs.toArray).run P C.w=.ok (.value v) C'.w∧Ext C C'∧Inv C' σ'∧VR C' av v∧R av σ'
def ACalls (P:Program) (f:FuncId) (args:List AV) (σ:Za) (R:AV→Za→Prop):Prop:=AEnter P f args σ R∨Uda P f args σ R
theorem ACalls.mono {f:FuncId} {args:List AV} {σ:Za} {R R':AV→Za→Prop} (h:ACalls P f args σ R) (hr:∀ v σ',R v σ'→R' v σ'):ACalls P f args σ R' :=
 h.imp (fun h=>h.mono hr) fun h C cargs hI hv =>
  let ⟨v,C',av,σ',h1,h2,h3,h4,h5⟩:=h C cargs hI hv;⟨v,C',av,σ',h1,h2,h3,h4,hr _ _ h5⟩
theorem Yez {ro:Option Nat} {f:FuncId} {args:Array Value} {w:World} {R:Ending→World→Prop} (h:CallsIn Fence.wide 0 P f args w R):CallsIn (WF ro) 0 P f args w R:=h
def RO (C:Ctx) (rd:Option Nat) (ro:Option Nat):Prop :=
 match rd with
 | none=>ro=none
 | some r=>∃ b,C.blk[r]? = some b∧ro=some b
theorem RO.ext {C C':Ctx} (h:Ext C C') {rd ro:Option Nat} (hr:RO C rd ro):RO C' rd ro:=by
 cases rd with
 | none=>exact hr
 | some r=>obtain ⟨b,hb,e⟩:=hr;exact ⟨b,h.blk_at hb,e⟩
def Post (C:Ctx) (Q:Exit→Env→Za→Prop) (e:Exit) (a':Act) (w':World):Prop :=
 ∃ (C':Ctx) (env':Env) (σ':Za),C'.w=w'∧Ext C C'∧Inv C' σ'∧ER C' env' a'∧Q e env' σ'
def ACode (P:Program) (rd:Option Nat) (c:Code) (Q:Exit→Env→Za→Prop) (env:Env) (σ:Za):Prop :=
 ∀ (C:Ctx) (a:Act) (ro:Option Nat),Inv C σ→ER C env a→RO C rd ro→c.wpIn (WF ro) 0 P (Post C Q) a C.w
theorem Post.mono {C:Ctx} {Q Q':Exit→Env→Za→Prop} (hq:∀ e env σ,Q e env σ→Q' e env σ) {e:Exit} {a:Act} {w:World} (h:Post C Q e a w):Post C Q' e a w :=
 let ⟨C',env',σ',h1,h2,h3,h4,h5⟩:=h;⟨C',env',σ',h1,h2,h3,h4,hq _ _ _ h5⟩
theorem Post.ext {C C':Ctx} (h:Ext C C') {Q:Exit→Env→Za→Prop} {e:Exit} {a:Act} {w:World} (hp:Post C' Q e a w):Post C Q e a w :=
 let ⟨C2,env',σ',h1,h2,h3,h4,h5⟩:=hp;⟨C2,env',σ',h1,h.trans h2,h3,h4,h5⟩
theorem ACode.mono {rd:Option Nat} {c:Code} {Q Q':Exit→Env→Za→Prop} {env:Env} {σ:Za} (h:ACode P rd c Q env σ) (hq:∀ e env σ,Q e env σ→Q' e env σ):ACode P rd c Q' env σ :=
 fun C a ro hI he hr=>wpIn_mono (h C a ro hI he hr) fun _ _ _ hp=>hp.mono hq
def Waf (ps:List Tmp) (args:List AV) (t:List AV):List AV:=(ps.zip args).foldl (fun t p=>t.set p.1 p.2) t
def QRound (r:Nat) (K:AV→Za→Prop):Exit→Env→Za→Prop
 | .normal,_,σ=>match σ[r]? with
  | some (.loop fn t ps assign body .busy none D)=>K (.bool true) (σ.set r (.loop fn t ps assign body .ready none D))
  | _=>False
 | .ret,_,σ=>match σ[r]? with
  | some (.loop fn t ps assign body .busy none D)=>K (.bool false) (σ.set r (.loop fn t ps assign body .done (some .ret) D))
  | _=>False
 | .exit id,_,σ=>match σ[r]? with
  | some (.loop fn t ps assign body .busy none D)=>K (.bool false) (σ.set r (.loop fn t ps assign body .done (some (.exit id)) D))
  | _=>False
 | _,_,_=>False
def QBegin (P:Program) (r:Nat) (body:Code) (K:AV→Za→Prop):Exit→Env→Za→Prop
 | .normal,env,σ=>match σ[r]? with
  | some (.loop fn t ps assign body' .ready none D)=>body'=body∧ACode P (some r) body (QRound r K) env (σ.set r (.loop fn t ps assign body' .busy none D))
  | _=>False
 | _,_,_=>False
def AYield (P:Program) (r:Nat) (args:List AV) (σ:Za) (K:AV→Za→Prop):Prop:=match σ[r]? with
 | some (.loop _ t ps assign body _ _ _)=>args.length=ps.size∧ACode P (some r) assign (QBegin P r body K) { t:=Waf ps.toList args t } σ
 | _=>False
def Wm (ops:List Oper) (t:List AV) (g:Option (Nat × Bool)):Option (Option (Option Tmp × Bool × Bool)) :=
 match g with
 | none=>some none
 | some (j,want) =>
  match (ops[j]?).bind (·.dst) with
  | some d=>(match t.getD d .any with
   | .bool b=>some (some (some d,b,want))
   | .tup _=>some (some (none,!want,want))
   | _=>none)
  | none=>none
def Env.known (e:Env) (d:Option Tmp) (b:Bool):Env :=
 match d with
 | some d=>{ e with t:=e.t.set d (.bool b) }
 | none=>e
def Cs (b:Bool) (X Y:Prop):Prop:=(b=true→X)∧(b=false→Y)
def aw1 (P:Program) (o:Oper) (K:AV→Za→Prop) (env:Env) (σ:Za):Prop :=
 match o.op with
 | .call { callee:=.value f,args,.. } =>
  (match Wa env.t f with
  | .fn (.func g) first caps=>ACalls P g (first++args.toList.map (Wa env.t)++caps) σ K
  | .yld r=>AYield P r (args.toList.map (Wa env.t)) σ K
  | _=>False)
 | _=>match aop P env.t σ o with
  | some (v,σ')=>K v σ'
  | none=>False
def aws (P:Program) (ops:List Oper):List Oper→(Env→Za→Prop)→Env→Za→Prop
 | [],K,env,σ=>K env σ
 | o::rest,K,env,σ =>
  match Wm ops env.t o.guard with
  | some none=>aw1 P o (fun v σ'=>aws P ops rest K (env.put o.dst v) σ') env σ
  | some (some (d,b,want))=>Cs (b == want) (aw1 P o (fun v σ'=>aws P ops rest K ((env.known d want).put o.dst v) σ') (env.known d want) σ) (aws P ops rest K ((env.known d (!want)).put o.dst (.tup [])) σ)
  | none=>False
theorem Ycc {ops:List Oper} {t:List AV} {g:Option (Nat × Bool)} (h:Wm ops t g=some none):g=none:=by
 unfold Wm at h
 split at h
 ·rfl
 ·split at h
  ·split at h<;>cases h
  ·cases h
theorem Wbs {C:Ctx} {env:Env} {a:Act} (he:ER C env a) {ops:Array Oper} {o:Oper} {d:Option Tmp} {b want:Bool} (h:Wm ops.toList env.t o.guard=some (some (d,b,want))) :
  Region.wanted o (yielded ops a.tmps)=(b == want)∧∀ d',d=some d'→env.t.getD d' .any=.bool b:=by
 unfold Wm at h
 split at h
 ·cases h
 ·rename_i j w hg
  unfold Region.wanted
  rw [hg]
  simp only
  split at h
  ·rename_i d' hd
   have hj:(ops[j]?).bind (·.dst)=some d':=by simpa using hd
   have hv:=he.eval (.tmp d')
   simp only [Wa] at hv
   split at h
   ·rename_i p hp
    simp only [Option.some.injEq,Prod.mk.injEq] at h
    obtain ⟨rfl,rfl,rfl⟩:=h
    rw [hp] at hv
    have hb:=hv.bool_inv
    have hd2:a.tmps[d']? = some (.bool p):=by
     simp only [Act.eval] at hb
     rw [Array.getD_eq_getD_getElem?] at hb
     cases hx:a.tmps[d']? with
     | none=>rw [hx] at hb;simp [undef] at hb
     | some y=>rw [hx] at hb;simp at hb;rw [hb]
    simp only [yielded,hj,Option.bind_some,hd2]
    refine ⟨?_,fun d2 h2=>by cases h2;exact hp⟩
    cases p<;>cases w<;>rfl
   ·rename_i l hp
    simp only [Option.some.injEq,Prod.mk.injEq] at h
    obtain ⟨rfl,rfl,rfl⟩:=h
    rw [hp] at hv
    obtain ⟨cs,hb,_⟩:=hv.tup_inv
    refine ⟨?_,fun d2 h2=>by cases h2⟩
    have hy:yielded ops a.tmps j=none:=by
     simp only [yielded,hj,Option.bind_some]
     simp only [Act.eval] at hb
     rw [Array.getD_eq_getD_getElem?] at hb
     cases hx:a.tmps[d']? with
     | none=>rfl
     | some y=>rw [hx] at hb;simp at hb;rw [hb]
    rw [hy]
    cases w<;>rfl
   ·cases h
  ·cases h
theorem ER.known1 {C:Ctx} {env:Env} {a:Act} (he:ER C env a) {d:Tmp} {b:Bool} (h:env.t.getD d .any=.bool b):ER C (env.known (some d) b) a:=by
 refine ⟨?_,he.m,he.mark⟩
 have hl:=he.t.len
 refine ⟨by simpa [Env.known] using hl,fun i x c hx hc=>?_⟩
 simp only [Env.known,List.getElem?_set] at hx
 by_cases e:d=i
 ·subst e
  by_cases hd:d<env.t.length
  ·simp [hd] at hx
   subst hx
   have hx':env.t[d]? = some (.bool b):=by
    rw [List.getD_eq_getElem?_getD,Qze hd] at h
    simp at h
    rw [Qze hd,h]
   exact he.t.at_ d _ c hx' hc
  ·simp [hd] at hx
 ·rw [if_neg e] at hx
  exact he.t.at_ i x c hx hc
theorem ER.known {C:Ctx} {env:Env} {a:Act} (he:ER C env a) {d:Option Tmp} {b:Bool} (h:∀ d',d=some d'→env.t.getD d' .any=.bool b):ER C (env.known d b) a:=by
 cases d with
 | none=>exact he
 | some d=>exact he.known1 (h d rfl)
theorem Ran.uponIn {C:Ctx} {ro:Option Nat} {o:Oper} {a:Act} {K:Act→World→Prop} {Q:Exit→Act→World→Prop} {r:Result Next} {v:AV} {σ':Za} (h:Ran C r v σ')
  (hK:∀ (C':Ctx) (c:Value),Ext C C'→Inv C' σ'→VR C' v c→K (a.put o.dst c) C'.w):o.uponIn (WF ro) 0 P a K Q r:=by
 obtain ⟨C',hE,hI,h⟩:=h
 rcases h with ⟨c,rfl,hv⟩ | ⟨rfl,rfl⟩
 ·exact hK C' c hE hI hv
 ·exact hK C' undef hE hI (.any _)
theorem Zb1 (l:Array Operand) (f:Operand→Value):l.map f=(l.toList.map f).toArray:=by apply Array.ext';simp
theorem Whc {P:Program} {t:List AV} {σ:Za} {o:Oper} (h:aop P t σ o≠none):∀ c,o.op≠.defer c:=by
 intro c hc
 unfold aop at h
 rw [hc] at h
 exact h rfl
theorem VRs.bind {C:Ctx}:∀ (ps:List Tmp) {xs:List AV} {cs:List Value} {t:List AV} {ct:List Value},VRs C xs cs→VRs C t ct→VRs C (Waf ps xs t) ((ps.zip cs).foldl (fun t p=>t.set p.1 p.2) ct):=by
 intro ps
 induction ps with
 | nil=>intro xs cs t ct _ h;exact h
 | cons p ps ih =>
  intro xs cs t ct hx ht
  cases xs with
  | nil=>rw [hx.of_nil];exact ht
  | cons x xs =>
   obtain ⟨c,cs',rfl,h1,h2⟩:=hx.inv
   exact ih h2 (ht.set h1 p)
theorem Zga (ps:Array Tmp) (cs:Array Value) (t:Array Value):((ps.zip cs).foldl (fun t (p,v)=>t.setIfInBounds p v) t)=((ps.toList.zip cs.toList).foldl (fun t p=>t.set p.1 p.2) t.toList).toArray:=by
 rw [← Array.foldl_toList,Array.toList_zip]
 generalize ps.toList.zip cs.toList=l
 induction l generalizing t with
 | nil=>simp
 | cons p l ih =>
  simp only [List.foldl_cons]
  rw [ih]
  simp
theorem Wan (w:World) (b:Nat) (o:Obj):w.putObj b o=Xh w b o:=rfl
theorem ORel.loop_inv {C:Ctx} {fn:FuncId} {env:List AV} {params:Array Tmp} {assign body:Code} {state:LoopState} {pending:Option Code} {defers:Nat} {c:Obj} (h:ORel C (.loop fn env params assign body state pending defers) c) :
  ∃ tmps:Array Value,c=.loop { state,pending,fn,tmps,params,assign,body,defers }∧VRs C env tmps.toList:=by
 cases h with | loop _ _ tmps _ _ _ _ _ _ h1=>exact ⟨tmps,rfl,h1⟩
theorem Udl {C:Ctx} {σ:Za} {K:AV→Za→Prop} {r b:Nat} {xs:List AV} {cs:List Value} (hI:Inv C σ) (hb:C.blk[r]? = some b) (hx:VRs C xs cs) (h:AYield P r xs σ K) :
  ∃ (f:FuncId) (tmps:Array Value) (assign body:Code),(Instr.yield b cs.toArray).run P C.w=.ok (.round b f tmps assign body) C.w ∧
   ∀ (ro:Option Nat) (R:Ending→World→Prop),(∀ (C':Ctx) (c:Value) (v:AV) (σ':Za),Ext C C'→Inv C' σ'→VR C' v c→K v σ'→R (.returned c) C'.w)→RoundIn (WF ro) 0 P b f tmps assign body C.w R:=by
 unfold AYield at h
 split at h
 ·rename_i fn t ps assign body st pd D hr
  obtain ⟨hlen,h⟩:=h
  obtain ⟨_,c,hc,hR⟩:=hI.live r b _ hb hr rfl
  obtain ⟨tmps,rfl,ht⟩:=hR.loop_inv
  have hy:=run_yield (P:=P) (args:=cs.toArray) hc (by have:=hx.len;simp;omega)
  refine ⟨_,_,_,_,hy,fun ro R hn=>roundIn_of_wpIn (F:=WF ro) trivial ?_⟩
  simp only
  have he:ER C { t:=Waf ps.toList xs t } { tmps:=(ps.zip cs.toArray).foldl (fun t (p,v)=>t.setIfInBounds p v) tmps,defers:=[] } :=
   ⟨by rw [Zga ps cs.toArray tmps];simpa using VRs.bind ps.toList hx ht,rfl,fun i r d h=>by simp at h⟩
  refine wpIn_mono (h C _ (some b) hI he ⟨b,hb,rfl⟩) ?_
  rintro e a' w' ⟨C1,env1,σ1,rfl,hE1,hI1,he1,hq⟩
  cases e with
  | normal =>
   simp only [QBegin] at hq
   split at hq
   ·rename_i fn1 t1 ps1 assign1 body1 D1 hr1
    obtain ⟨rfl,hq⟩:=hq
    have hb1:=hE1.blk_at hb
    obtain ⟨hnp1,c1,hc1,hR1⟩:=hI1.live r b _ hb1 hr1 rfl
    obtain ⟨tmps1,rfl,ht1⟩:=hR1.loop_inv
    refine ⟨_,run_beginRound hc1 rfl,?_⟩
    rw [Wan]
    have hE2:=Ext.set (C:=C1) (o:=.loop { state:=.busy,pending:=none,fn:=fn1,tmps:=tmps1,params:=ps1,assign:=assign1,body:=body1,defers:=D1 }) hc1 hnp1 rfl
    have hI2:=hI1.set (c':=.loop { state:=.busy,pending:=none,fn:=fn1,tmps:=tmps1,params:=ps1,assign:=assign1,body:=body1,defers:=D1 }) hb1 hr1 rfl hc1 rfl (.loop fn1 t1 tmps1 ps1 assign1 body1 .busy none D1 (ht1.ext hE2))
    refine wpIn_mono (hq _ _ (some b) hI2 (he1.ext hE2) ⟨b,hb1,rfl⟩) ?_
    rintro e a' w' ⟨C3,env3,σ3,rfl,hE3,hI3,he3,hq3⟩
    cases e with
    | normal =>
     simp only [QRound] at hq3
     split at hq3
     ·rename_i fn3 t3 ps3 assign3 body3 D3 hr3
      have hb3:C3.blk[r]? = some b:=hE3.blk_at hb1
      obtain ⟨hnp3,c3,hc3,hR3⟩:=hI3.live r b _ hb3 hr3 rfl
      obtain ⟨tmps3,rfl,ht3⟩:=hR3.loop_inv
      refine ⟨_,_,run_endRound none hc3,?_⟩
      simp only [Option.isNone_none,if_true]
      rw [Wan]
      have hE4:=Ext.set (C:=C3) (o:=.loop { state:=.ready,pending:=none,fn:=fn3,tmps:=tmps3,params:=ps3,assign:=assign3,body:=body3,defers:=D3 }) hc3 hnp3 rfl
      have hI4:=hI3.set (c':=.loop { state:=.ready,pending:=none,fn:=fn3,tmps:=tmps3,params:=ps3,assign:=assign3,body:=body3,defers:=D3 }) hb3 hr3 rfl hc3 rfl (.loop fn3 t3 tmps3 ps3 assign3 body3 .ready none D3 (ht3.ext hE4))
      exact hn _ _ _ _ ((hE1.trans hE2).trans (hE3.trans hE4)) hI4 (.bool true) hq3
     ·exact hq3.elim
    | ret =>
     simp only [QRound] at hq3
     split at hq3
     ·rename_i fn3 t3 ps3 assign3 body3 D3 hr3
      have hb3:C3.blk[r]? = some b:=hE3.blk_at hb1
      obtain ⟨hnp3,c3,hc3,hR3⟩:=hI3.live r b _ hb3 hr3 rfl
      obtain ⟨tmps3,rfl,ht3⟩:=hR3.loop_inv
      refine ⟨_,_,run_endRound (some .ret) hc3,?_⟩
      simp only [Option.isNone_some,Bool.false_eq_true,if_false]
      rw [Wan]
      have hE4:=Ext.set (C:=C3) (o:=.loop { state:=.done,pending:=some .ret,fn:=fn3,tmps:=tmps3,params:=ps3,assign:=assign3,body:=body3,defers:=D3 }) hc3 hnp3 rfl
      have hI4:=hI3.set (c':=.loop { state:=.done,pending:=some .ret,fn:=fn3,tmps:=tmps3,params:=ps3,assign:=assign3,body:=body3,defers:=D3 }) hb3 hr3 rfl hc3 rfl (.loop fn3 t3 tmps3 ps3 assign3 body3 .done (some .ret) D3 (ht3.ext hE4))
      exact hn _ _ _ _ ((hE1.trans hE2).trans (hE3.trans hE4)) hI4 (.bool false) hq3
     ·exact hq3.elim
    | exit id =>
     simp only [QRound] at hq3
     split at hq3
     ·rename_i fn3 t3 ps3 assign3 body3 D3 hr3
      have hb3:C3.blk[r]? = some b:=hE3.blk_at hb1
      obtain ⟨hnp3,c3,hc3,hR3⟩:=hI3.live r b _ hb3 hr3 rfl
      obtain ⟨tmps3,rfl,ht3⟩:=hR3.loop_inv
      refine ⟨_,_,run_endRound (some (.exit id)) hc3,?_⟩
      simp only [Option.isNone_some,Bool.false_eq_true,if_false]
      rw [Wan]
      have hE4:=Ext.set (C:=C3) (o:=.loop { state:=.done,pending:=some (.exit id),fn:=fn3,tmps:=tmps3,params:=ps3,assign:=assign3,body:=body3,defers:=D3 }) hc3 hnp3 rfl
      have hI4:=hI3.set (c':=.loop { state:=.done,pending:=some (.exit id),fn:=fn3,tmps:=tmps3,params:=ps3,assign:=assign3,body:=body3,defers:=D3 }) hb3 hr3 rfl hc3 rfl (.loop fn3 t3 tmps3 ps3 assign3 body3 .done (some (.exit id)) D3 (ht3.ext hE4))
      exact hn _ _ _ _ ((hE1.trans hE2).trans (hE3.trans hE4)) hI4 (.bool false) hq3
     ·exact hq3.elim
    | _=>exact hq3.elim
   ·exact hq.elim
  | _=>exact hq.elim
 ·cases h
theorem Yab {C:Ctx} {env:Env} {a:Act} {σ:Za} {o:Oper} {K:AV→Za→Prop} (hI:Inv C σ) (he:ER C env a) (h:aw1 P o K env σ) (ro:Option Nat) (next:Act→World→Prop) (Q:Exit→Act→World→Prop)
  (hn:∀ (C':Ctx) (c:Value) (v:AV) (σ':Za),Ext C C'→Inv C' σ'→VR C' v c→K v σ'→next (a.put o.dst c) C'.w):o.wpIn (WF ro) 0 P a C.w next Q:=by
 refine ⟨fun _ _=>trivial,?_⟩
 unfold aw1 at h
 split at h
 ·rename_i f args ts hop
  rw [Oper.semAt_eq _ _ _ (by rw [hop];intro c hc;cases hc)]
  have hf:=he.eval f
  split at h
  ·rename_i g first caps hg
   rw [hg] at hf
   obtain ⟨cs,ds,hfv,hcs,hds⟩:=hf.fn_inv
   have hargs:=VRs.map he args.toList
   have hrun:(execOp a.eval o).run P C.w=(callFunc g ((cs++args.toList.map a.eval)++ds).toArray).run P C.w:=by
    obtain ⟨dst,op,ty,pos,after,guard⟩:=o
    simp only at hop
    subst hop
    simp only [execOp,Sem.run_bind,resolve,hfv,Deferred.ofValue,Sem.run_pure,Result.andThen_ok,invoke]
    rw [Zb1]
    congr 2
    apply Array.ext'
    simp
   rcases h with h | h
   ·have hcall:=h.2 C ((cs++args.toList.map a.eval)++ds) hI ((hcs.append hargs).append hds)
    rw [hrun,h.1]
    refine ⟨fun hd=>(by cases hd),(Yez hcall).mono ?_⟩
    rintro e w' ⟨v,C',av,σ',rfl,rfl,hE,hI',hv,hK⟩
    exact hn C' v av σ' hE hI' hv hK
   ·obtain ⟨v,C',av,σ',hr,hE,hI',hv,hK⟩:=h C ((cs++args.toList.map a.eval)++ds) hI ((hcs.append hargs).append hds)
    rw [hrun,hr]
    exact hn C' v av σ' hE hI' hv hK
  ·rename_i r hg
   rw [hg] at hf
   obtain ⟨b,hb,hfv⟩:=hf.yld_inv
   obtain ⟨f',tmps,assign,body,hy,hround⟩:=Udl (P:=P) hI hb (VRs.map he args.toList) h
   have hrun:(execOp a.eval o).run P C.w=(Instr.yield b (args.toList.map a.eval).toArray).run P C.w:=by
    obtain ⟨dst,op,ty,pos,after,guard⟩:=o
    simp only at hop
    subst hop
    simp only [execOp,Sem.run_bind,resolve,hfv,Deferred.ofValue,Sem.run_pure,Result.andThen_ok,invoke]
    rw [Zb1]
    congr 2
    apply Array.ext'
    simp
   rw [hrun,hy]
   refine ⟨fun hd=>(by cases hd),hround ro _ ?_⟩
   intro C' c v σ' hE hI' hv hK
   exact hn C' c v σ' hE hI' hv hK
  ·cases h
 ·split at h
  ·rename_i v σ' hop
   have hne:aop P env.t σ o≠none:=by rw [hop];simp
   rw [Oper.semAt_eq _ _ _ (Whc hne)]
   exact (Xc8 hI he hop).uponIn fun C' c hE hI' hv=>hn C' c v σ' hE hI' hv h
  ·cases h
theorem Vh3 (ops:Array Oper) (ro:Option Nat) (Q:Exit→Act→World→Prop):∀ (l:List Nat) (l':List Oper),(∀ i∈l,i<ops.size)→l.map (fun i=>ops[i]?)=l'.map some→∀ (K:Env→Za→Prop) (env:Env) (σ:Za) (C:Ctx) (a:Act),Inv C σ→ER C env a→aws P ops.toList l' K env σ →
  (∀ (C':Ctx) (env':Env) (σ':Za) (a':Act),Ext C C'→Inv C' σ'→ER C' env' a'→K env' σ'→Q .normal a' C'.w)→wpOpsIn (WF ro) 0 P ops Q l a C.w:=by
 intro l
 induction l with
 | nil =>
  intro l' _ hm K env σ C a hI he h hK
  obtain rfl:l'=[]:=by cases l'<;>simp_all
  exact hK C env σ a (Ext.refl C) hI he h
 | cons i l ih =>
  intro l' hb hm K env σ C a hI he h hK
  cases l' with
  | nil=>simp at hm
  | cons o l' =>
   simp only [List.map_cons,List.cons.injEq] at hm
   obtain ⟨ho,hm⟩:=hm
   have hrest:∀ (env:Env) (v:AV) (c:Value) (C':Ctx) (σ':Za),ER C env a→Ext C C'→Inv C' σ'→VR C' v c→aws P ops.toList l' K (env.put o.dst v) σ'→wpOpsIn (WF ro) 0 P ops Q l (a.put o.dst c) C'.w:=by
    intro env v c C' σ' he hE hI' hv hw
    exact ih l' (fun j hj=>hb j (by simp [hj])) hm K _ σ' C' _ hI' ((he.ext hE).put hv o.dst) hw fun C2 env2 σ2 a2 hE2=>hK C2 env2 σ2 a2 (hE.trans hE2)
   unfold aws at h
   split at h
   ·rename_i hg
    have hwt:Region.wanted o (yielded ops a.tmps)=true:=by unfold Region.wanted;rw [Ycc hg]
    simp only [wpOpsIn,ho,hwt,if_true]
    exact Yab hI he h ro _ _ fun C' c v σ' hE hI' hv hk=>hrest env v c C' σ' he hE hI' hv hk
   ·rename_i d b want hg
    obtain ⟨hwt,hd⟩:=Wbs he hg
    simp only [wpOpsIn,ho,hwt]
    by_cases hbw:b=want
    ·subst hbw
     simp only [BEq.rfl,if_true]
     exact Yab hI (he.known hd) (h.1 (by simp)) ro _ _ fun C' c v σ' hE hI' hv hk=>hrest _ v c C' σ' (he.known hd) hE hI' hv hk
    ·have hbn:b=!want:=by cases b<;>cases want<;>simp_all
     have:(b == want)=false:=by simpa using hbw
     simp only [this,Bool.false_eq_true,if_false]
     subst hbn
     exact ⟨fun _ _=>trivial,hrest _ (.tup []) undef C σ (he.known hd) (Ext.refl C) hI (.tup [] [] rfl (fun i x c h=>by simp at h)) (h.2 this)⟩
   ·cases h
theorem Uba {rd:Option Nat} {id:Nat} {ops:Array Oper} {Q:Exit→Env→Za→Prop} {env:Env} {σ:Za} (h:aws P ops.toList ops.toList (Q .normal) env σ):ACode P rd (.region id ops false) Q env σ:=by
 intro C a ro hI he _
 refine wpIn_region (Vh3 ops ro _ (List.range ops.size) ops.toList (fun i hi=>by simpa using hi) ?_ (Q .normal) env σ C a hI he h ?_)
 ·apply List.ext_getElem?
  intro i
  simp only [Qzp]
  by_cases hi:i<ops.size
  ·rw [List.getElem?_range hi];simp [hi]
  ·rw [List.getElem?_eq_none (by simpa using hi),List.getElem?_eq_none (by simpa using hi)];rfl
 ·intro C' env' σ' a' hE hI' he' hq
  exact ⟨C',env',σ',rfl,hE,hI',he',hq⟩
def Wb (N:Env→Za→Prop) (Q:Exit→Env→Za→Prop):Exit→Env→Za→Prop
 | .normal,env,σ=>N env σ
 | e,env,σ=>Q e env σ
def Vb (id:Nat) (Q:Exit→Env→Za→Prop):Exit→Env→Za→Prop
 | .exit id',env,σ=>if id'=id then Q .normal env σ else Q (.exit id') env σ
 | e,env,σ=>Q e env σ
theorem Xaf {rd:Option Nat} {x y:Code} {Q:Exit→Env→Za→Prop} {env:Env} {σ:Za} (h:ACode P rd x (Wb (ACode P rd y Q) Q) env σ):ACode P rd (.seq x y) Q env σ:=by
 intro C a ro hI he hr
 refine wpIn_seq (wpIn_mono (h C a ro hI he hr) ?_)
 rintro e a' w' ⟨C',env',σ',rfl,hE,hI',he',hq⟩
 cases e with
 | normal=>exact wpIn_mono (hq C' a' ro hI' he' (hr.ext hE)) fun e a w hp=>hp.ext hE
 | _=>exact ⟨C',env',σ',rfl,hE,hI',he',hq⟩
theorem Wbp {rd:Option Nat} {id:Nat} {c:Code} {Q:Exit→Env→Za→Prop} {env:Env} {σ:Za} (h:ACode P rd c (Vb id Q) env σ):ACode P rd (.block id c) Q env σ:=by
 intro C a ro hI he hr
 refine wpIn_block (wpIn_mono (h C a ro hI he hr) ?_)
 rintro e a' w' ⟨C',env',σ',rfl,hE,hI',he',hq⟩
 cases e with
 | exit id' =>
  simp only [Exit.inBlock,Vb] at hq ⊢
  split at hq
  ·rename_i e;rw [if_pos e];exact ⟨C',env',σ',rfl,hE,hI',he',hq⟩
  ·rename_i e;rw [if_neg e];exact ⟨C',env',σ',rfl,hE,hI',he',hq⟩
 | _=>exact ⟨C',env',σ',rfl,hE,hI',he',hq⟩
def Env.op (e:Env) (c:Operand) (b:Bool):Env :=
 match c with
 | .tmp d=>e.known (some d) b
 | _=>e
theorem ER.op {C:Ctx} {env:Env} {a:Act} (he:ER C env a) {c:Operand} {b:Bool} (h:Wa env.t c=.bool b):ER C (env.op c b) a:=by
 cases c with
 | tmp d=>exact he.known1 h
 | _=>exact he
theorem War {rd:Option Nat} {c:Operand} {x y:Code} {Q:Exit→Env→Za→Prop} {env:Env} {σ:Za} {p:Bool} (hc:Wa env.t c=.bool p) (ht:p=true→ACode P rd x Q (env.op c true) σ) (hf:p=false→ACode P rd y Q (env.op c false) σ):ACode P rd (.cond c x y) Q env σ:=by
 intro C a ro hI he hr
 have hv:=he.eval c
 rw [hc] at hv
 exact wpIn_cond_split hv.bool_inv (fun h=>by subst h;exact ht rfl C a ro hI (he.op hc) hr) (fun h=>by subst h;exact hf rfl C a ro hI (he.op hc) hr)
theorem Post.done {C:Ctx} {Q:Exit→Env→Za→Prop} {e:Exit} {env:Env} {σ:Za} {a:Act} (hI:Inv C σ) (he:ER C env a) (h:Q e env σ):Post C Q e a C.w:=⟨C,env,σ,rfl,Ext.refl C,hI,he,h⟩
def awp (P:Program) (rd:Option Nat):Code→(Exit→Env→Za→Prop)→Env→Za→Prop
 | .skip,Q,env,σ=>Q .normal env σ
 | .label _,Q,env,σ=>Q .normal env σ
 | .exit id,Q,env,σ=>Q (.exit id) env σ
 | .goto l,Q,env,σ=>Q (.goto l) env σ
 | .ret,Q,env,σ=>Q .ret env σ
 | .region _ ops false,Q,env,σ=>aws P ops.toList ops.toList (Q .normal) env σ
 | .seq a b,Q,env,σ=>awp P rd a (Wb (awp P rd b Q) Q) env σ
 | .cond c x y,Q,env,σ =>
  match Wa env.t c with
  | .bool p=>Cs p (awp P rd x Q (env.op c true) σ) (awp P rd y Q (env.op c false) σ)
  | _=>False
 | .block id c,Q,env,σ=>awp P rd c (Vb id Q) env σ
 | c,Q,env,σ=>ACode P rd c Q env σ
theorem Vk {rd:Option Nat} (c:Code):∀ {Q:Exit→Env→Za→Prop} {env:Env} {σ:Za},awp P rd c Q env σ→ACode P rd c Q env σ:=by
 induction c with
 | skip=>intro Q env σ h C a ro hI he _;exact wpIn_skip (Post.done hI he h)
 | label l=>intro Q env σ h C a ro hI he _;exact wpIn_label (Post.done hI he h)
 | exit id=>intro Q env σ h C a ro hI he _;exact wpIn_exit (Post.done hI he h)
 | goto l=>intro Q env σ h C a ro hI he _;exact wpIn_goto (Post.done hI he h)
 | ret=>intro Q env σ h C a ro hI he _;exact wpIn_ret (Post.done hI he h)
 | region id ops draw =>
  intro Q env σ h
  cases draw with
  | false=>exact Uba h
  | true=>exact h
 | seq x y ihx ihy =>
  intro Q env σ h
  refine Xaf ((ihx h).mono fun e env σ hq=>?_)
  cases e with
  | normal=>exact ihy hq
  | _=>exact hq
 | cond c x y ihx ihy =>
  intro Q env σ h
  simp only [awp] at h
  split at h
  ·rename_i p hp
   exact War hp (fun e=>ihx (h.1 e)) (fun e=>ihy (h.2 e))
  ·cases h
 | block id c ih=>intro Q env σ h;exact Wbp (ih h)
 | loop b _=>intro Q env σ h;exact h
 | rangeFunc f ps a b _ _=>intro Q env σ h;exact h
 | scope b _=>intro Q env σ h;exact h
 | refuse w=>intro Q env σ h;exact h
theorem Zbr {rd:Option Nat} {c:Code} {Q:Exit→Env→Za→Prop} {env:Env} {σ:Za} (I:Env→Za→Prop) (μ:Env→Za→Nat) (h0:I env σ)
  (round:∀ env σ,I env σ→ACode P rd c (Wb (fun env' σ'=>I env' σ'∧μ env' σ'<μ env σ) Q) env σ):ACode P rd (.loop c) Q env σ:=by
 intro C a ro hI he hr b k cs hro hb hroom
 have key:∀ (j:Nat) (C':Ctx) (env:Env) (σ:Za) (a:Act),μ env σ=j→I env σ→Ext C C'→Inv C' σ→ER C' env a →
   ∃ e a' w',Post C Q e a' w'∧ArrivesIn (Machine.fenced P (WF ro)) P (lone (b.atR a (.code c::.inLoop c::k)) cs C'.w) b k cs e a' w':=by
  intro j
  induction j using Nat.strongRecOn with
  | _ j ih =>
   intro C' env σ a hn hi hE hI he
   obtain ⟨e,a₁,w₁,⟨C1,env1,σ1,rfl,hE1,hI1,he1,hq⟩,harr⟩:=round env σ hi C' a ro hI he (hr.ext hE) b (.inLoop c::k) cs hro hb hroom
   cases e with
   | normal =>
    obtain ⟨hi1,hlt⟩:=hq
    obtain ⟨e₂,a₂,w₂,hq₂,harr₂⟩:=ih (μ env1 σ1) (hn▸hlt) C1 env1 σ1 a₁ rfl hi1 (hE.trans hE1) hI1 he1
    exact ⟨e₂,a₂,w₂,hq₂,.of_steps (StepsIn.trans harr (.one (fenced_calm hb hroom rfl) stepR_inLoop)) harr₂⟩
   | exit id=>exact ⟨_,a₁,_,⟨C1,env1,σ1,rfl,hE.trans hE1,hI1,he1,hq⟩,.pass (x:=.inLoop c) rfl (fun _ _=>.inl (by simp)) harr⟩
   | goto l=>exact ⟨_,a₁,_,⟨C1,env1,σ1,rfl,hE.trans hE1,hI1,he1,hq⟩,.pass (x:=.inLoop c) rfl (fun _ _=>.inl (by simp)) harr⟩
   | ret=>exact ⟨_,a₁,_,⟨C1,env1,σ1,rfl,hE.trans hE1,hI1,he1,hq⟩,.pass (x:=.inLoop c) rfl (fun _ _=>.inl (by simp)) harr⟩
   | panic ch=>exact ⟨_,a₁,_,⟨C1,env1,σ1,rfl,hE.trans hE1,hI1,he1,hq⟩,.pass (x:=.inLoop c) rfl (fun _ _=>.inl (by simp)) harr⟩
   | outgrown=>exact ⟨_,a₁,_,⟨C1,env1,σ1,rfl,hE.trans hE1,hI1,he1,hq⟩,.pass (x:=.inLoop c) rfl (fun _ _=>.inl (by simp)) harr⟩
 obtain ⟨e,a',w',hq,harr⟩:=key _ C env σ a rfl h0 (Ext.refl C) hI he
 exact ⟨e,a',w',hq,.of_steps (.one (fenced_calm hb hroom rfl) stepR_loop) harr⟩
def Wah (P:Program) (t:List AV) (σ:Za):ResultVar→Option AV
 | .tmp i=>some (t.getD i .any)
 | .cell a ty=>Vx P ty (t.getD a .any) σ
def Yw (P:Program) (t:List AV) (σ:Za):List ResultVar→Option (List AV)
 | []=>some []
 | r::rs=>match Wah P t σ r,Yw P t σ rs with
  | some v,some vs=>some (v::vs)
  | _,_=>none
def Up (P:Program) (rs:List ResultVar) (t:List AV) (σ:Za):Option AV :=
 match rs with
 | [r]=>Wah P t σ r
 | _=>(Yw P t σ rs).map AV.tup
def QFn (P:Program) (fn:Func) (R:AV→Za→Prop):Exit→Env→Za→Prop
 | .normal,env,σ | .ret,env,σ=>env.m=[]∧match Up P fn.results.toList env.t σ with
  | some v=>R v σ
  | none=>False
 | _,_,_=>False
def Uas (tmps:Array Value):ResultVar→Sem Value
 | .tmp t=>pure (tmps.getD t undef)
 | .cell a t=>do loadVar t (← asAddr (tmps.getD a undef))
theorem Yhf (fn:Func) (tmps:Array Value):results fn tmps=(do let vs ← fn.results.mapM (Uas tmps);pure (if h:vs.size=1 then vs[0] else .tuple vs)):=by
 unfold results
 congr 1
theorem Zc6 {C:Ctx} {env:Env} {a:Act} {σ:Za} (hI:Inv C σ) (he:ER C env a) {r:ResultVar} {v:AV} (h:Wah P env.t σ r=some v) :
  ∃ c,(Uas a.tmps r).run P C.w=.ok c C.w∧VR C v c:=by
 cases r with
 | tmp i =>
  simp only [Wah,Option.some.injEq] at h
  subst h
  exact ⟨_,rfl,he.eval (.tmp i)⟩
 | cell x t =>
  simp only [Wah] at h
  obtain ⟨cv,hr,hv⟩:=Ybx (P:=P) hI (he.eval (.tmp x)) h
  refine ⟨cv,?_,hv⟩
  simp only [Instr.loadAt,Act.eval] at hr
  simp only [Uas]
  revert hr
  generalize a.tmps.getD x undef=q
  cases q<;>simp [Instr.sureAddr,asAddr]
  rename_i p
  cases p<;>simp
theorem Yf8 {C:Ctx} {env:Env} {a:Act} {σ:Za} (hI:Inv C σ) (he:ER C env a):∀ (rs:List ResultVar) (vs:List AV),Yw P env.t σ rs=some vs →
  ∃ cs:List Value,(rs.mapM (Uas a.tmps)).run P C.w=.ok cs C.w∧VRs C vs cs:=by
 intro rs
 induction rs with
 | nil=>intro vs h;simp only [Yw,Option.some.injEq] at h;subst h;exact ⟨[],rfl,.nil C⟩
 | cons r rs ih =>
  intro vs h
  simp only [Yw] at h
  split at h
  ·rename_i v vs' h1 h2
   simp only [Option.some.injEq] at h
   subst h
   obtain ⟨c,hc,hv⟩:=Zc6 hI he h1
   obtain ⟨cs,hcs,hvs⟩:=ih vs' h2
   refine ⟨c::cs,?_,.cons hv hvs⟩
   rw [List.mapM_cons]
   simp only [Sem.run_bind,Sem.run_pure]
   rw [hc]
   simp only [Result.andThen_ok]
   rw [hcs]
   rfl
  ·cases h
theorem Ycj {C:Ctx} {env:Env} {a:Act} {σ:Za} (hI:Inv C σ) (he:ER C env a) {fn:Func} {v:AV} (h:Up P fn.results.toList env.t σ=some v):∃ c,(results fn a.tmps).run P C.w=.ok c C.w∧VR C v c:=by
 have key:∀ vs,Yw P env.t σ fn.results.toList=some vs→∃ cs:List Value,(fn.results.mapM (Uas a.tmps)).run P C.w=.ok cs.toArray C.w∧VRs C vs cs:=by
  intro vs hvs
  obtain ⟨cs,hcs,hr⟩:=Yf8 hI he _ vs hvs
  refine ⟨cs,?_,hr⟩
  rw [Array.mapM_eq_mapM_toList,Sem.run_map,hcs]
  rfl
 unfold Up at h
 rw [Yhf]
 split at h
 ·rename_i r hr
  have h1:Yw P env.t σ fn.results.toList=some [v]:=by rw [hr];simp [Yw,h]
  obtain ⟨cs,hcs,hv⟩:=key _ h1
  obtain ⟨c,cs',rfl,hc,hrest⟩:=hv.inv
  obtain rfl:=hrest.of_nil
  refine ⟨c,?_,hc⟩
  simp only [Sem.run_bind]
  rw [hcs]
  simp
 ·rename_i hne
  rw [Qzm] at h
  obtain ⟨vs,hvs,rfl⟩:=h
  obtain ⟨cs,hcs,hv⟩:=key _ hvs
  refine ⟨.tuple cs.toArray,?_,.tup vs cs hv.len hv.at_⟩
  simp only [Sem.run_bind]
  rw [hcs]
  have hl:cs.length≠1:=by
   intro e1
   have h2:=hv.len
   rw [e1] at h2
   have h3:∀ (l:List ResultVar) (vs:List AV),Yw P env.t σ l=some vs→vs.length=l.length:=by
    intro l
    induction l with
    | nil=>intro vs h;simp [Yw] at h;simp [h]
    | cons r l ih =>
     intro vs h
     simp only [Yw] at h
     split at h
     ·rename_i v vs' h1 h2
      simp only [Option.some.injEq] at h
      subst h
      simp [ih vs' h2]
     ·cases h
   have h4:=h3 _ _ hvs
   rw [h2] at h4
   match hm:fn.results.toList with
   | [r]=>exact hne r hm
   | []=>rw [hm] at h4;cases h4
   | _::_::_=>rw [hm] at h4;simp at h4
  simp [hl]
theorem Vcg {f:FuncId} {fn:Func} {c:Code} {args:List AV} {σ:Za} {R:AV→Za→Prop} (hf:P.funcs[f]? = some fn) (hb:fn.body=some c) (hen:Enters P f)
  (h:ACode P none c (QFn P fn R) { t:=args++List.replicate (fn.ntmps - args.length) .any } σ):AEnter P f args σ R:=by
 refine ⟨hen,fun C cargs hI hv=>?_⟩
 have hl:=hv.len
 refine callsIn_of_wp hf hb trivial ?_ rfl
 have he:ER C { t:=args++List.replicate (fn.ntmps - args.length) .any } { tmps:=cargs.toArray++Array.replicate (fn.ntmps - cargs.toArray.size) undef,defers:=[] }:=by
  refine ⟨?_,rfl,fun i r d h=>by simp at h⟩
  have h2:VRs C (List.replicate (fn.ntmps - args.length) .any) (List.replicate (fn.ntmps - args.length) undef):=⟨by simp,fun i x c hx hc=>by
   obtain ⟨_,hx⟩:=Qzs.1 hx
   simp at hx
   subst hx
   exact .any _⟩
  have:=hv.append h2
  simpa [hl] using this
 refine wpIn_mono (h C _ none hI he rfl) ?_
 rintro e a' w' ⟨C',env',σ',rfl,hE,hI',he',hq⟩
 have key:env'.m=[]→(match Up P fn.results.toList env'.t σ' with | some v=>R v σ' | none=>False) →
   a'.defers=[]∧∃ v,(results fn a'.tmps).run P C'.w=.ok v C'.w∧(∃ (v':Value) (C'':Ctx) (av:AV) (σ'':Za),Ending.returned v=.returned v'∧C''.w=C'.w∧Ext C C''∧Inv C'' σ''∧VR C'' av v'∧R av σ''):=by
  intro hm hq
  split at hq
  ·rename_i v hv'
   obtain ⟨c,hc,hvr⟩:=Ycj hI' he' hv'
   refine ⟨?_,c,hc,c,C',v,σ',rfl,rfl,hE,hI',hvr,hq⟩
   have:=he'.m
   rw [hm] at this
   exact List.eq_nil_of_length_eq_zero this
  ·cases hq
 cases e with
 | normal=>exact key hq.1 hq.2
 | ret=>exact key hq.1 hq.2
 | _=>cases hq
theorem Vao {f:FuncId} {fn:Func} {c:Code} {args:List AV} {σ:Za} {R:AV→Za→Prop} (hf:P.funcs[f]? = some fn) (hb:fn.body=some c) (hen:Enters P f)
  (h:ACode P none c (QFn P fn R) { t:=args++List.replicate (fn.ntmps - args.length) .any } σ):ACalls P f args σ R:=.inl (Vcg hf hb hen h)
end Ab
namespace Ab
open Go Go.RowKit
variable [Mode]
variable {P:Program}
def Ua0 (acc:List Nat) (o:Oper):Nat:=o.after.toList.foldl (fun s e=>if Region.binds .any e then s ||| 2^e.on ||| acc.getD e.on 0 else s) 0
def Zal (acc:List Nat):List Oper→List Nat
 | []=>acc
 | o::rest=>Zal (acc++[Ua0 acc o]) rest
def Vh (ops:List Oper):List Nat:=Zal [] ops
def bef (ms:List Nat) (i j:Nat):Bool:=(ms.getD i 0).testBit j
theorem Vdv (acc:List Nat) (es:List Edge) (j:Nat):∀ (s:Nat),(es.foldl (fun s e=>if Region.binds .any e then s ||| 2^e.on ||| acc.getD e.on 0 else s) s).testBit j=true →
  s.testBit j=true∨∃ e∈es,Region.binds .any e=true∧(j=e.on∨(acc.getD e.on 0).testBit j=true):=by
 induction es with
 | nil=>intro s h;exact .inl h
 | cons e es ih =>
  intro s h
  simp only [List.foldl_cons] at h
  rcases ih _ h with h | ⟨e',he',h1,h2⟩
  ·split at h
   ·rename_i hb
    simp only [Nat.testBit_or,Bool.or_eq_true] at h
    rcases h with (h | h) | h
    ·exact .inl h
    ·rw [Nat.testBit_two_pow] at h
     simp at h
     exact .inr ⟨e,by simp,hb,.inl h.symm⟩
    ·exact .inr ⟨e,by simp,hb,.inr h⟩
   ·exact .inl h
  ·exact .inr ⟨e',by simp [he'],h1,h2⟩
theorem Vhv (ops:List Oper):∀ (rest dn:List Oper) (acc:List Nat),ops=dn++rest→acc.length=dn.length→(∀ i o,i<acc.length→ops[i]? = some o→acc[i]? = some (Ua0 (acc.take i) o)) →
  (Zal acc rest).length=ops.length∧∀ i o,ops[i]? = some o→(Zal acc rest)[i]? = some (Ua0 ((Zal acc rest).take i) o):=by
 intro rest
 induction rest with
 | nil=>intro dn acc h1 h2 h3;simp [Zal,h1] at *;exact ⟨h2,fun i o ho=>h3 i o (by rw [h2];exact (Qzs.1 ho).1) ho⟩
 | cons o rest ih =>
  intro dn acc h1 h2 h3
  simp only [Zal]
  refine ih (dn++[o]) _ (by simp [h1]) (by simp [h2]) (fun i o' hi ho'=>?_)
  simp at hi
  rcases Qzn i acc.length with h | h
  ·rw [Qzl h,h3 i o' h ho',List.take_append_of_le_length (by omega)]
  ·obtain rfl:i=acc.length:=by omega
   rw [h1,h2] at ho'
   simp at ho'
   subst ho'
   simp
theorem Uai {ops:List Oper} {i j:Nat} {o:Oper} (ho:ops[i]? = some o) (h:bef (Vh ops) i j=true):∃ e∈o.after,Region.binds .any e=true∧(j=e.on∨(e.on<i∧bef (Vh ops) e.on j=true)):=by
 obtain ⟨_,hg⟩:=Vhv ops ops [] [] rfl rfl (fun i o hi=>by simp at hi)
 have hm:=hg i o ho
 unfold bef Vh at h
 rw [List.getD_eq_getElem?_getD,hm] at h
 simp only [Option.getD_some,Ua0] at h
 rcases Vdv _ _ _ _ h with h | ⟨e,he,h1,h2⟩
 ·simp at h
 ·refine ⟨e,by simpa using he,h1,?_⟩
  rcases h2 with h2 | h2
  ·exact .inl h2
  ·refine .inr ?_
   rw [List.getD_eq_getElem?_getD,List.getElem?_take] at h2
   by_cases hlt:e.on<i
   ·rw [if_pos hlt] at h2
    exact ⟨hlt,by unfold bef Vh;rw [List.getD_eq_getElem?_getD];exact h2⟩
   ·rw [if_neg hlt] at h2
    simp at h2
def Closed (ops:List Oper) (L:Nat→Bool):Prop:=∀ (i:Nat) (o:Oper),ops[i]? = some o→L i=true→∀ e∈o.after,Region.binds .any e=true→L e.on=true
theorem Closed.bef {ops:List Oper} {L:Nat→Bool} (hc:Closed ops L):∀ (i j:Nat) (o:Oper),ops[i]? = some o→L i=true→bef (Vh ops) i j=true→L j=true:=by
 intro i
 induction i using Nat.strongRecOn with
 | _ i ih =>
  intro j o ho hi hb
  obtain ⟨e,he,h1,h2⟩:=Uai ho hb
  have hl:=hc i o ho hi e he h1
  rcases h2 with rfl | ⟨h2,h3⟩
  ·exact hl
  ·have hlt:e.on<ops.length:=Nat.lt_trans h2 (Qzs.1 ho).1
   exact ih e.on h2 j _ (Qze hlt) hl h3
def Yn (ops:List Oper) (o:Oper):List Tmp :=
 o.dst.toList++o.op.operands.toList.filterMap (fun | .tmp t=>some t | _=>none)++(match o.guard with | some (j,_)=>((ops[j]?).bind (·.dst)).toList | none=>[])
def Xo (ops:List Oper) (H:List Nat):Bool :=
 let ms:=Vh ops
 (ops.zipIdx.all fun (o,i)=>(o.after.all fun e=>!Region.binds .any e||decide (e.on<i)) &&
  (ops.zipIdx.all fun (o',j)=>!decide (i<j)||bef ms j i ||
   (!(o.dst.toList.any fun d=>(Yn ops o').contains d)&&!(o'.dst.toList.any fun d=>(Yn ops o).contains d)&&!(H.contains i&&H.contains j)))) &&
 (H.zipIdx.all fun (h,p)=>decide (h<ops.length)&&H.zipIdx.all fun (h',p')=>!decide (p<p')||decide (h<h'))
def Va (ops:List Oper) (r:Nat→AV) (env:Env) (L:Nat→Bool):Nat→Env
 | 0=>env
 | k+1=>if L k then (Va ops r env L k).put ((ops[k]?).bind (·.dst)) (r k) else Va ops r env L k
theorem Vs (ops:List Oper) (r:Nat→AV) (env:Env) (L:Nat→Bool) (k:Nat):(Va ops r env L k).m=env.m∧(Va ops r env L k).t.length=env.t.length:=by
 induction k with
 | zero=>exact ⟨rfl,rfl⟩
 | succ k ih =>
  simp only [Va]
  split
  ·cases (ops[k]?).bind (·.dst) with
   | none=>exact ih
   | some d=>exact ⟨ih.1,by simp [Env.put,ih.2]⟩
  ·exact ih
theorem Yar (e:Env) (d:Option Tmp) (v:AV) (t:Tmp) (h:d≠some t):(e.put d v).t.getD t .any=e.t.getD t .any:=by
 cases d with
 | none=>rfl
 | some d =>
  have:d≠t:=fun x=>h (by rw [x])
  simp only [Env.put,List.getD_eq_getElem?_getD,List.getElem?_set,if_neg this]
theorem Vbd {ops:List Oper} {r:Nat→AV} {env:Env} {L:Nat→Bool} {i:Nat} {t:Tmp}:∀ (n:Nat),(∀ j,j<n→(ops[j]?).bind (·.dst)=some t→(L j=true↔j<i)) →
  (Va ops r env L n).t.getD t .any=(Va ops r env (fun _=>true) (min n i)).t.getD t .any:=by
 intro n
 induction n with
 | zero=>intro _;simp [Va]
 | succ n ih =>
  intro h
  have ih':=ih fun j hj hd=>h j (by omega) hd
  by_cases hd:(ops[n]?).bind (·.dst)=some t
  ·have hn:=h n (by omega) hd
   by_cases hlt:n<i
   ·rw [show min (n+1) i=n+1 by omega]
    simp only [Va,hn.2 hlt,if_true]
    rw [show min n i=n by omega] at ih'
    rw [hd]
    have l1:=(Vs ops r env L n).2
    have l2:=(Vs ops r env (fun _=>true) n).2
    simp only [Env.put,List.getD_eq_getElem?_getD,List.getElem?_set,l1,l2]
    by_cases ht:t<env.t.length
    ·simp [ht]
    ·simp [ht]
   ·have hf:L n=false:=by
     cases hL:L n
     ·rfl
     ·exact absurd (hn.1 hL) hlt
    rw [show min (n+1) i=min n i by omega]
    simp only [Va,hf,Bool.false_eq_true,if_false]
    exact ih'
  ·have e1:(Va ops r env L (n+1)).t.getD t .any=(Va ops r env L n).t.getD t .any:=by
    simp only [Va]
    split
    ·exact Yar _ _ _ _ hd
    ·rfl
   rw [e1,ih']
   by_cases hlt:n<i
   ·rw [show min (n+1) i=n+1 by omega,show min n i=n by omega]
    simp only [Va,if_true]
    rw [Yar _ _ _ _ hd]
   ·rw [show min (n+1) i=min n i by omega]
theorem put_comm (e:Env) {d d':Option Tmp} (v v':AV) (h:∀ t,d=some t→d'≠some t):(e.put d v).put d' v'=(e.put d' v').put d v:=by
 cases d with
 | none=>rfl
 | some d =>
  cases d' with
  | none=>rfl
  | some d' =>
   have:d≠d':=fun x=>h d rfl (by rw [x])
   simp only [Env.put,List.set_comm _ _ this]
theorem Zbf {ops:List Oper} {r:Nat→AV} {env:Env} {L:Nat→Bool} {i:Nat} (hi:L i=false):∀ (n:Nat),i<n→(∀ j,i<j→j<n→L j=true→∀ t,(ops[i]?).bind (·.dst)=some t→(ops[j]?).bind (·.dst)≠some t) →
  Va ops r env (fun j=>if j=i then true else L j) n=(Va ops r env L n).put ((ops[i]?).bind (·.dst)) (r i):=by
 intro n
 induction n with
 | zero=>intro h;omega
 | succ n ih =>
  intro h hd
  have same:∀ k,k≤i→Va ops r env (fun j=>if j=i then true else L j) k=Va ops r env L k:=by
   intro k
   induction k with
   | zero=>intro _;rfl
   | succ k ihk=>intro hk;simp only [Va,ihk (by omega),if_neg (show ¬ k=i by omega)]
  by_cases e:n=i
  ·subst e
   simp only [Va,if_true,hi,Bool.false_eq_true,if_false,same n (Nat.le_refl _)]
  ·have ih':=ih (by omega) fun j h1 h2=>hd j h1 (by omega)
   simp only [Va,if_neg e]
   split
   ·rename_i hl
    rw [ih',put_comm _ _ _ (fun t ht=>hd n (by omega) (by omega) hl t ht)]
   ·exact ih'
theorem Wa5 {t t':List AV} (l:List Operand) (h:∀ x∈l,Wa t x=Wa t' x):l.map (Wa t)=l.map (Wa t'):=List.map_congr_left h
theorem Vbc {t t':List AV} (x:Option Operand) (h:∀ y,x=some y→Wa t y=Wa t' y):x.map (Wa t)=x.map (Wa t'):=by
 cases x with
 | none=>rfl
 | some y=>simp only [Option.map_some,h y rfl]
theorem Ya9 {t t':List AV} (ps:Array (Nat × Operand)) (h:∀ x∈ps.toList.map (·.2),Wa t x=Wa t' x):(ps.toList.map fun p=>(p.1,Wa t p.2))=ps.toList.map fun p=>(p.1,Wa t' p.2):=by
 apply List.map_congr_left
 intro p hp
 rw [h p.2 (List.mem_map.2 ⟨p,hp,rfl⟩)]
theorem Xgt {t t':List AV} {σ:Za} {dst:Option Tmp} {ty:TypeId} {pos:String} {after:Array Edge} {guard:Option (Nat × Bool)} {c:Call} (h:∀ x∈c.operands,Wa t x=Wa t' x) :
  aop P t σ { dst,op:=.call c,type:=ty,pos,after,guard }=aop P t' σ { dst,op:=.call c,type:=ty,pos,after,guard }:=by
 obtain ⟨callee,args,ts⟩:=c
 cases callee<;>simp only [aop]
 rw [Wa5 args.toList (fun y hy=>h y (by simp [Call.operands];simpa using hy))]
theorem Wc0 {t t':List AV} {σ:Za} {o:Oper} (h:∀ x∈o.op.operands,Wa t x=Wa t' x):aop P t σ o=aop P t' σ o:=by
 obtain ⟨dst,op,ty,pos,after,guard⟩:=o
 simp only at h
 cases op
 case makeMap ty q=>cases q<;>rfl
 case lookup ty x i ok=>simp only [Op.operands] at h;simp only [aop];rw [h x (by simp),h i (by simp)]
 case mapUpdate ty m k x=>simp only [Op.operands] at h;simp only [aop];rw [h m (by simp),h k (by simp),h x (by simp)]
 case call c=>exact Xgt h
 all_goals simp only [Op.operands] at h
 all_goals first
  | rfl
  | (simp only [aop];rw [h _ (by simp)];done)
  | (rename_i x;simp only [aop];rw [h x (by simp)];done)
  | (rename_i x y;simp only [aop];rw [h x (by simp),h y (by simp)];done)
  | (rename_i x y z;simp only [aop];rw [h x (by simp),h y (by simp),h z (by simp)];done)
  | (rename_i x y z;simp only [aop];rw [h y (by simp),h z (by simp)];done)
  | (rename_i a b x y c;simp only [aop];rw [h x (by simp),h y (by simp)];done)
  | (rename_i x ps;simp only [aop];rw [Ya9 ps (fun y hy=>h y (by simpa using hy))];done)
  | (rename_i x n ps;simp only [aop];rw [Ya9 ps (fun y hy=>h y (by simpa using hy))];done)
  | (rename_i f xs ys;simp only [aop];rw [Wa5 xs.toList (fun y hy=>h y (by simp;exact .inl (by simpa using hy))),Wa5 ys.toList (fun y hy=>h y (by simp;exact .inr (by simpa using hy)))];done)
  | (rename_i t2 x lo hi mx;simp only [aop];rw [h x (by simp),Vbc lo (fun y hy=>h y (by simp [hy])),Vbc hi (fun y hy=>h y (by simp [hy])),Vbc mx (fun y hy=>h y (by simp [hy]))];done)
theorem Vat {o:Oper} {K:AV→Za→Prop} {env env':Env} {σ:Za} (h:∀ x∈o.op.operands,Wa env.t x=Wa env'.t x) (hw:aw1 P o K env σ):aw1 P o K env' σ:=by
 unfold aw1 at hw ⊢
 split at hw
 ·rename_i f args ts hop
  rw [hop] at h
  have h1:Wa env'.t f=Wa env.t f:=(h f (by simp [Op.operands,Call.operands])).symm
  have h2:args.toList.map (Wa env'.t)=args.toList.map (Wa env.t):=Wa5 _ fun y hy=>(h y (by simp [Op.operands,Call.operands];exact .inr (by simpa using hy))).symm
  rw [h1,h2]
  exact hw
 ·rename_i hne
  rw [Wc0 h] at hw
  exact hw
end Ab
namespace Ab
open Go Go.RowKit
variable [Mode]
variable {P:Program}
def We (ops:List Oper) (t:List AV) (g:Option (Nat × Bool)):Option Bool :=
 match Wm ops t g with
 | some none=>some true
 | some (some (_,b,want))=>some (b == want)
 | none=>none
theorem Yz {C:Ctx} {env:Env} {a:Act} (he:ER C env a) {ops:Array Oper} {o:Oper} {b:Bool} (h:We ops.toList env.t o.guard=some b):Region.wanted o (yielded ops a.tmps)=b:=by
 unfold We at h
 split at h
 ·rename_i hg
  simp only [Option.some.injEq] at h
  subst h
  unfold Region.wanted;rw [Ycc hg]
 ·rename_i d p want hg
  simp only [Option.some.injEq] at h
  rw [← h]
  exact (Wbs he hg).1
 ·cases h
theorem Ubb {ops:List Oper} {t t':List AV} {g:Option (Nat × Bool)} (h:∀ j w d,g=some (j,w)→(ops[j]?).bind (·.dst)=some d→t.getD d .any=t'.getD d .any):We ops t g=We ops t' g:=by
 unfold We Wm
 cases g with
 | none=>rfl
 | some jw =>
  obtain ⟨j,w⟩:=jw
  simp only
  cases hd:(ops[j]?).bind (·.dst) with
  | none=>rfl
  | some d=>simp only [h j w d rfl hd]
def tr:Nat→Bool:=fun _=>true
def Yi (P:Program) (o:Oper) (v:AV) (s':Za) (env:Env) (s:Za):Prop:=aw1 P o (fun v' s2=>v'=v∧s2=s') env s
def Zj (o:Oper):Bool:=match o.op with | .call { callee:=.value _,.. }=>true | _=>false
def isLit (o:Oper):Bool:=match o.op with | .buildSlice _ _ _=>true | _=>false
def Lit (P:Program) (o:Oper) (v:AV) (env:Env):Prop :=
 ∀ (s:Za) (env':Env) (C:Ctx) (a:Act),(∀ x∈o.op.operands,Wa env.t x=Wa env'.t x)→Inv C s→ER C env' a→∀ (ro:Option Nat) (next:Act→World→Prop) (Q:Exit→Act→World→Prop),
  (∀ (C':Ctx) (c:Value),Ext C C'→Inv C' s→VR C' v c→next (a.put o.dst c) C'.w)→o.wpIn (WF ro) 0 P a C.w next Q
structure Draws (P:Program) (ops:List Oper) (H:List Nat) (env:Env) (σ:Za) (r:Nat→AV) (S:Nat→Za):Prop where
 s0:S 0=σ
 light:∀ (i:Nat) (o:Oper),ops[i]? = some o→i∉H →
  (We ops (Va ops r env tr i).t o.guard=some true ∧
   (Lit P o (r i) (Va ops r env tr i)∨∀ m,m≤H.length→(∀ p h,H[p]? = some h→(bef (Vh ops) i h=true→p<m)∧(bef (Vh ops) h i=true→m≤p))→aw1 P o (fun v s=>v=r i∧s=S m) (Va ops r env tr i) (S m))) ∨
  (We ops (Va ops r env tr i).t o.guard=some false∧r i=.tup [])
 heavy:∀ (p i:Nat) (o:Oper),H[p]? = some i→ops[i]? = some o →
  (We ops (Va ops r env tr i).t o.guard=some true∧aw1 P o (fun v s=>v=r i∧s=S (p+1)) (Va ops r env tr i) (S p)) ∨
  (We ops (Va ops r env tr i).t o.guard=some false∧r i=.tup []∧S (p+1)=S p)
theorem Vak {ops:List Oper} {H:List Nat} (h:Xo ops H=true) :
  (∀ (i:Nat) (o:Oper),ops[i]? = some o→∀ e∈o.after,Region.binds .any e=true→e.on<i) ∧
  (∀ (i j:Nat) (o o':Oper),ops[i]? = some o→ops[j]? = some o'→i<j→bef (Vh ops) j i=true ∨
   ((∀ d,o.dst=some d→d∉Yn ops o')∧(∀ d,o'.dst=some d→d∉Yn ops o)∧¬ (i∈H∧j∈H))) ∧
  (∀ (p:Nat) (h:Nat),H[p]? = some h→h<ops.length)∧(∀ (p p' h h':Nat),H[p]? = some h→H[p']? = some h'→p<p'→h<h'):=by
 unfold Xo at h
 simp only [Bool.and_eq_true,List.all_eq_true] at h
 obtain ⟨h1,h2⟩:=h
 have mem:∀ {α:Type} {l:List α} {i:Nat} {x:α},l[i]? = some x→(x,i)∈l.zipIdx:=fun h=>List.mem_zipIdx_iff_getElem?.2 h
 refine ⟨fun i o ho e he hb=>?_,fun i j o o' ho ho' hij=>?_,fun p h hp=>?_,fun p p' h h' hp hp' hlt=>?_⟩
 ·have:=(h1 _ (mem ho)).1
  rw [Array.all_eq_true_iff_forall_mem] at this
  have:=this e he
  simp [hb] at this
  exact this
 ·have:=(h1 _ (mem ho)).2 _ (mem ho')
  simp only [hij,decide_true,Bool.not_true,Bool.false_or,Bool.or_eq_true,Bool.and_eq_true,Bool.not_eq_true'] at this
  rcases this with this | ⟨⟨g1,g2⟩,g3⟩
  ·exact .inl this
  ·refine .inr ⟨fun d hd hm=>?_,fun d hd hm=>?_,fun ⟨hi,hj⟩=>?_⟩
   ·rw [hd] at g1;simp at g1;exact g1 hm
   ·rw [hd] at g2;simp at g2;exact g2 hm
   ·simp [hi,hj] at g3
 ·have:=(h2 _ (mem hp)).1
  simpa using this
 ·have:=(h2 _ (mem hp)).2 _ (mem hp')
  simpa [hlt] using this
theorem mem_of_getElem? {l:List Nat} {p h:Nat} (hp:l[p]? = some h):h∈l:=Qzg hp
theorem Vca {rd:Option Nat} {id:Nat} {opsA:Array Oper} {Q:Exit→Env→Za→Prop} {env:Env} {σ:Za} (hm:P.follows .mixedOrders=true) (H:List Nat) (r:Nat→AV) (S:Nat→Za)
  (hok:Xo opsA.toList H=true) (hd:Draws P opsA.toList H env σ r S) (hQ:Q .normal (Va opsA.toList r env tr opsA.size) (S H.length)):ACode P rd (.region id opsA true) Q env σ:=by
 intro C a ro hI he _
 obtain ⟨hedge,hpair,hHlt,hHord⟩:=Vak hok
 refine wpIn_region_any hm ?_
 have key:∀ (fuel:Nat) (listed:Array Bool) (C':Ctx) (a:Act) (m:Nat),listed.size=opsA.size→Closed opsA.toList (fun i=>listed.getD i false) →
   ((List.range opsA.size).countP fun i=>!listed.getD i false)≤fuel→m≤H.length→(∀ p h,H[p]? = some h→(listed.getD h false=true↔p<m)) →
   Ext C C'→Inv C' (S m)→ER C' (Va opsA.toList r env (fun i=>listed.getD i false) opsA.size) a →
   wpAnyIn (WF ro) 0 P .any opsA (Post C Q) fuel listed a C'.w:=by
  intro fuel
  have done:∀ (listed:Array Bool) (C':Ctx) (a:Act) (m:Nat),listed.size=opsA.size→m≤H.length→(∀ p h,H[p]? = some h→(listed.getD h false=true↔p<m)) →
    Ext C C'→Inv C' (S m)→ER C' (Va opsA.toList r env (fun i=>listed.getD i false) opsA.size) a→Region.ready .any opsA listed=[]→Post C Q .normal a C'.w:=by
   intro listed C' a m hsz hmle hmm hE hI' he' hr
   have hall:∀ i,i<opsA.size→listed.getD i false=true:=by
    intro i
    induction i using Nat.strongRecOn with
    | _ i ih =>
     intro hi
     cases hl:listed.getD i false with
     | true=>rfl
     | false =>
      have:i∈Region.ready .any opsA listed:=by
       rw [mem_ready]
       refine ⟨?_,opsA[i],Array.getElem?_eq_getElem hi,fun e he hb=>?_⟩
       ·have hi':i<listed.size:=by omega
        simp only [Array.getD_eq_getD_getElem?,Array.getElem?_eq_getElem hi',Option.getD_some] at hl ⊢
        exact hl
       ·have hlt:=hedge i opsA[i] (by simp [hi]) e he hb
        exact ih e.on hlt (by omega)
      rw [hr] at this
      cases this
   have hmH:m=H.length:=by
    rcases Qzn m H.length with h | h
    ·have h1:=hHlt m H[m] (Qze h)
     have h2:=(hmm m H[m] (Qze h)).1 (hall _ (by simpa using h1))
     omega
    ·omega
   have henv:∀ k,k≤opsA.size→Va opsA.toList r env (fun i=>listed.getD i false) k=Va opsA.toList r env tr k:=by
    intro k
    induction k with
    | zero=>intro _;rfl
    | succ k ih=>intro hk;simp only [Va,ih (by omega),hall k (by omega),tr]
   rw [henv _ (Nat.le_refl _)] at he'
   subst hmH
   exact ⟨C',_,_,rfl,hE,hI',he',hQ⟩
  induction fuel with
  | zero =>
   intro listed C' a m hsz hcl hcnt hmle hmm hE hI' he'
   have hr:Region.ready .any opsA listed=[]:=by
    rw [List.eq_nil_iff_forall_not_mem]
    intro i hi
    rw [mem_ready] at hi
    obtain ⟨h1,o,ho,_⟩:=hi
    have hlt:=(Array.getElem?_eq_some_iff.1 ho).1
    have h2:0<(List.range opsA.size).countP fun i=>!listed.getD i false:=by
     rw [List.countP_pos_iff]
     refine ⟨i,by simpa using hlt,?_⟩
     have hi':i<listed.size:=by omega
     simp only [Array.getD_eq_getD_getElem?,Array.getElem?_eq_getElem hi',Option.getD_some] at h1 ⊢
     simp [h1]
    omega
   exact ⟨hr,done listed C' a m hsz hmle hmm hE hI' he' hr⟩
  | succ fuel ih =>
   intro listed C' a m hsz hcl hcnt hmle hmm hE hI' he'
   refine ⟨fun hr=>done listed C' a m hsz hmle hmm hE hI' he' hr,fun i hi=>?_⟩
   rw [mem_ready] at hi
   obtain ⟨hul,o,ho,hpre⟩:=hi
   have hlt:=(Array.getElem?_eq_some_iff.1 ho).1
   have hol:opsA.toList[i]? = some o:=by simpa using ho
   have hun:listed.getD i false=false:=by
    have hi':i<listed.size:=by omega
    simp only [Array.getD_eq_getD_getElem?,Array.getElem?_eq_getElem hi',Option.getD_some] at hul ⊢
    exact hul
   have hset:∀ j,(listed.setIfInBounds i true).getD j false=(if j=i then true else listed.getD j false):=by
    intro j
    simp only [Array.getD_eq_getD_getElem?,Array.getElem?_setIfInBounds]
    by_cases e:i=j
    ·subst e;simp [show i<listed.size by omega]
    ·rw [if_neg e,if_neg (fun x=>e x.symm)]
   have hcl':Closed opsA.toList (fun j=>(listed.setIfInBounds i true).getD j false):=by
    intro j o' ho' hj e he hb
    simp only [hset] at hj ⊢
    split at hj
    ·rename_i e1
     subst e1
     rw [hol] at ho'
     obtain rfl:o=o':=by simpa using ho'
     have:=hpre e he hb
     split
     ·rfl
     ·exact this
    ·have:=hcl j o' ho' hj e he hb
     split
     ·rfl
     ·exact this
   have hcnt':((List.range opsA.size).countP fun j=>!(listed.setIfInBounds i true).getD j false)≤fuel:=by
    have h1:((List.range opsA.size).countP fun j=>!(listed.setIfInBounds i true).getD j false)+1≤(List.range opsA.size).countP fun j=>!listed.getD j false:=by
     have hmem:i∈List.range opsA.size:=by simpa using hlt
     obtain ⟨l1,l2,hl⟩:=List.append_of_mem hmem
     rw [hl]
     simp only [List.countP_append,List.countP_cons,hset,if_true,hun]
     have hle:∀ l:List Nat,(l.countP fun j=>!if j=i then true else listed.getD j false)≤l.countP fun j=>!listed.getD j false:=by
      intro l
      apply List.countP_mono_left
      intro j _ hj
      simp at hj ⊢
      exact hj.2
     have a1:=hle l1
     have a2:=hle l2
     simp at a1 a2 ⊢
     omega
    omega
   have hval:∀ t∈Yn opsA.toList o,(Va opsA.toList r env (fun i=>listed.getD i false) opsA.size).t.getD t .any=(Va opsA.toList r env tr i).t.getD t .any:=by
    intro t ht
    have:=Vbd (ops:=opsA.toList) (r:=r) (env:=env) (L:=fun i=>listed.getD i false) (i:=i) (t:=t) opsA.size (fun j hj hdj=>by
     obtain ⟨oj,hoj,hdj⟩:=Option.bind_eq_some_iff.1 hdj
     rcases Nat.lt_trichotomy j i with h | h | h
     ·refine ⟨fun _=>h,fun _=>?_⟩
      rcases hpair j i oj o hoj hol h with hb | ⟨h1,_,_⟩
      ·
       obtain ⟨e,he,hbi,hje⟩:=Uai hol hb
       have hl:=hpre e he hbi
       rcases hje with rfl | ⟨h2,h3⟩
       ·exact hl
       ·have hlt2:e.on<opsA.toList.length:=by simp;omega
        exact Closed.bef (L:=fun i=>listed.getD i false) hcl e.on j _ (Qze hlt2) hl h3
      ·exact absurd ht (h1 t hdj)
     ·subst h
      exact ⟨(fun hx=>by rw [hun] at hx;cases hx),fun hx=>absurd hx (Nat.lt_irrefl _)⟩
     ·refine ⟨fun hx=>?_,fun hx=>by omega⟩
      rcases hpair i j o oj hol hoj h with hb | ⟨_,h2,_⟩
      ·have:=Closed.bef (L:=fun i=>listed.getD i false) hcl j i oj hoj hx hb
       rw [hun] at this;cases this
      ·exact absurd ht (h2 t hdj))
    rw [this,show min opsA.size i=i by omega]
    rfl
   have hav:∀ x∈o.op.operands,Wa (Va opsA.toList r env tr i).t x=Wa (Va opsA.toList r env (fun i=>listed.getD i false) opsA.size).t x:=by
    intro x hx
    cases x with
    | tmp t =>
     simp only [Wa]
     refine (hval t ?_).symm
     simp only [Yn,List.mem_append]
     exact .inl (.inr (List.mem_filterMap.2 ⟨.tmp t,by simpa using hx,rfl⟩))
    | _=>rfl
   have haw:We opsA.toList (Va opsA.toList r env tr i).t o.guard=We opsA.toList (Va opsA.toList r env (fun i=>listed.getD i false) opsA.size).t o.guard:=by
    refine Ubb fun j w d hg hd=>(hval d ?_).symm
    simp only [Yn,List.mem_append,hg]
    exact .inr (by rw [hd];simp)
   have hnext:Va opsA.toList r env (fun j=>(listed.setIfInBounds i true).getD j false) opsA.size=(Va opsA.toList r env (fun i=>listed.getD i false) opsA.size).put o.dst (r i):=by
    have e1:(fun j=>(listed.setIfInBounds i true).getD j false)=fun j=>if j=i then true else listed.getD j false:=funext hset
    rw [e1,Zbf (L:=fun i=>listed.getD i false) hun opsA.size hlt (fun j h1 h2 hl t ht hj=>by
     obtain ⟨oj,hoj,hdj⟩:=Option.bind_eq_some_iff.1 hj
     rcases hpair i j o oj hol hoj h1 with hb | ⟨h3,_,_⟩
     ·have:=Closed.bef (L:=fun i=>listed.getD i false) hcl j i oj hoj hl hb
      rw [hun] at this;cases this
     ·have:o.dst=some t:=by rw [hol] at ht;simpa using ht
      refine h3 t this ?_
      simp only [Yn,List.mem_append,hdj]
      exact .inl (.inl (by simp)))]
    rw [hol]
    rfl
   have hbefi:∀ h,bef (Vh opsA.toList) i h=true→listed.getD h false=true:=by
    intro h hb
    obtain ⟨e,he,hbi,hje⟩:=Uai hol hb
    have hl:=hpre e he hbi
    rcases hje with rfl | ⟨h2,h3⟩
    ·exact hl
    ·have hlt2:e.on<opsA.toList.length:=by simp;omega
     exact Closed.bef (L:=fun i=>listed.getD i false) hcl e.on h _ (Qze hlt2) hl h3
   unfold wpOpIn
   rw [ho]
   simp only
   by_cases hH:i∈H
   ·
    obtain ⟨p,hp⟩:=List.mem_iff_getElem?.1 hH
    have hpm:p=m:=by
     have h1:¬ p<m:=fun hx=>by rw [(hmm p i hp).2 hx] at hun;cases hun
     rcases Nat.lt_trichotomy p m with h | h | h
     ·exact absurd h h1
     ·exact h
     ·have hmlt:m<H.length:=by have:=(Qzs.1 hp).1;omega
      have hm':=Qze hmlt
      have hord:=hHord m p H[m] i hm' hp h
      have hlt3:=hHlt m H[m] hm'
      rcases hpair H[m] i opsA.toList[H[m]] o (Qze hlt3) hol hord with hb | ⟨_,_,h3⟩
      ·have:=(hmm m H[m] hm').1 (hbefi _ hb)
       omega
      ·exact absurd ⟨mem_of_getElem? hm',hH⟩ h3
    subst hpm
    have hmm':∀ q h,H[q]? = some h→((listed.setIfInBounds i true).getD h false=true↔q<p+1):=by
     intro q h hq
     rw [hset]
     by_cases e:h=i
     ·subst e
      simp only [if_true,true_iff]
      rcases Nat.lt_trichotomy q p with g | g | g
      ·omega
      ·omega
      ·have:=hHord p q h h hp hq g;omega
     ·rw [if_neg e,hmm q h hq]
      constructor
      ·intro g;omega
      ·intro g
       rcases Qzn q p with g2 | g2
       ·exact g2
       ·obtain rfl:q=p:=by omega
        rw [hp] at hq
        exact absurd (by simpa using hq.symm) e
    have hple:p+1≤H.length:=(Qzs.1 hp).1
    rcases hd.heavy p i o hp hol with ⟨hw,hr⟩ | ⟨hw,hr,hS⟩
    ·rw [haw] at hw
     rw [Yz he' hw,if_pos rfl]
     refine Yab hI' he' (Vat hav hr) ro _ _ fun C2 c v s hE2 hI2 hv ⟨h1,h2⟩=>?_
     subst h1;subst h2
     refine ih _ C2 _ (p+1) (by simpa using hsz) hcl' hcnt' hple hmm' (hE.trans hE2) hI2 ?_
     rw [hnext]
     exact (he'.ext hE2).put hv o.dst
    ·rw [haw] at hw
     rw [Yz he' hw,if_neg (by simp)]
     refine ⟨fun _ _=>trivial,ih _ C' _ (p+1) (by simpa using hsz) hcl' hcnt' hple hmm' hE (by rw [hS];exact hI') ?_⟩
     rw [hnext,hr]
     exact he'.put (.tup [] [] rfl (fun i x c h=>by simp at h)) o.dst
   ·
    have hmm':∀ q h,H[q]? = some h→((listed.setIfInBounds i true).getD h false=true↔q<m):=by
     intro q h hq
     rw [hset,if_neg (fun e:h=i=>hH (by rw [← e];exact mem_of_getElem? hq))]
     exact hmm q h hq
    rcases hd.light i o hol hH with ⟨hw,hr⟩ | ⟨hw,hr⟩
    ·rw [haw] at hw
     rw [Yz he' hw,if_pos rfl]
     rcases hr with hr | hr
     ·refine hr _ _ _ _ hav hI' he' ro _ _ fun C2 c hE2 hI2 hv=>?_
      refine ih _ C2 _ m (by simpa using hsz) hcl' hcnt' hmle hmm' (hE.trans hE2) hI2 ?_
      rw [hnext]
      exact (he'.ext hE2).put hv o.dst
     have hlev:=hr m hmle (fun p h hp=>⟨fun hb=>(hmm p h hp).1 (hbefi h hb),fun hb=>by
      rcases Qzn p m with g | g
      ·have hl:=(hmm p h hp).2 g
       have hlt3:=hHlt p h hp
       have:=Closed.bef (L:=fun i=>listed.getD i false) hcl h i _ (Qze hlt3) hl hb
       rw [hun] at this;cases this
      ·exact g⟩)
     refine Yab hI' he' (Vat hav hlev) ro _ _ fun C2 c v s hE2 hI2 hv ⟨h1,h2⟩=>?_
     subst h1;subst h2
     refine ih _ C2 _ m (by simpa using hsz) hcl' hcnt' hmle hmm' (hE.trans hE2) hI2 ?_
     rw [hnext]
     exact (he'.ext hE2).put hv o.dst
    ·rw [haw] at hw
     rw [Yz he' hw,if_neg (by simp)]
     refine ⟨fun _ _=>trivial,ih _ C' _ m (by simpa using hsz) hcl' hcnt' hmle hmm' hE hI' ?_⟩
     rw [hnext,hr]
     exact he'.put (.tup [] [] rfl (fun i x c h=>by simp at h)) o.dst
 have h0:∀ i,(Array.replicate opsA.size false).getD i false=false:=by
  intro i
  simp only [Array.getD_eq_getD_getElem?,Array.getElem?_replicate]
  split<;>rfl
 have hdr:Ext C (C.at_ C.w.drew):=Ext.drew
 refine key opsA.size (Array.replicate opsA.size false) (C.at_ C.w.drew) a 0 (by simp) (fun i o _ hx=>by simp only [h0] at hx;cases hx) ?_ (Nat.zero_le _) (fun p h _=>by rw [h0];simp) hdr ?_ ?_
 ·have:=List.countP_le_length (p:=fun i=>!(Array.replicate opsA.size false).getD i false) (l:=List.range opsA.size)
  simpa using this
 ·rw [hd.s0];exact hI.drew
 ·have henv:∀ k,Va opsA.toList r env (fun i=>(Array.replicate opsA.size false).getD i false) k=env:=by
   intro k
   induction k with
   | zero=>rfl
   | succ k ih=>simp only [Va,h0,Bool.false_eq_true,if_false];simpa only [h0] using ih
  rw [henv]
  exact he.ext hdr
end Ab
namespace Ab
open Go Go.RowKit
variable [Mode]
variable {P:Program}
def Uab (ops:List Oper) (H:List Nat) (W:List (Nat × Nat)):Bool :=
 let ms:=Vh ops
 (List.range ops.length).all fun i=>H.contains i||(List.range (H.length+1)).all fun m =>
  (m == H.countP (fun h=>decide (h<i)))||W.contains (i,m) ||
   H.zipIdx.any fun (h,p)=>(bef ms i h&&!decide (p<m))||(bef ms h i&&!decide (m≤p))
def adr (P:Program) (ops:List Oper) (H:List Nat) (W:List (Nat × Nat)) (K:Env→Za→Prop):List Oper→Nat→Env→Za→List AV→List Env→List Za→Prop
 | [],_,env,s,rs,es,ss=>(∀ x∈W,match ops[x.1]?,rs[x.1]?,es[x.1]?,ss[x.2]? with
   | some o,some v,some e,some s=>We ops e.t o.guard=some false∨Yi P o v s e s
   | _,_,_,_=>False)∧K env s
 | o::rest,i,env,s,rs,es,ss =>
  match We ops env.t o.guard with
  | some true =>
   (∃ v,(isLit o&&!H.contains i)=true∧Lit P o v env∧adr P ops H W K rest (i+1) (env.put o.dst v) s (rs++[v]) (es++[env]) ss) ∨
   if Zj o then
    (if H.contains i then ∃ v s',Yi P o v s' env s∧adr P ops H W K rest (i+1) (env.put o.dst v) s' (rs++[v]) (es++[env]) (ss++[s'])
     else ∃ v,Yi P o v s env s∧adr P ops H W K rest (i+1) (env.put o.dst v) s (rs++[v]) (es++[env]) ss)
   else
    (match aop P env.t s o with
     | some (v,s')=>if H.contains i then adr P ops H W K rest (i+1) (env.put o.dst v) s' (rs++[v]) (es++[env]) (ss++[s'])
        else s'=s∧adr P ops H W K rest (i+1) (env.put o.dst v) s (rs++[v]) (es++[env]) ss
     | none=>False)
  | some false=>if H.contains i then adr P ops H W K rest (i+1) (env.put o.dst (.tup [])) s (rs++[.tup []]) (es++[env]) (ss++[s]) else adr P ops H W K rest (i+1) (env.put o.dst (.tup [])) s (rs++[.tup []]) (es++[env]) ss
  | none=>False
theorem Va3 {o:Oper} {v:AV} {s s':Za} {env:Env} (hc:Zj o=false) (h:aop P env.t s o=some (v,s')):Yi P o v s' env s:=by
 unfold Yi aw1
 split
 ·rename_i f args ts hop
  unfold Zj at hc
  rw [hop] at hc
  cases hc
 ·rw [h];exact ⟨rfl,rfl⟩
def rOf (rs:List AV):Nat→AV:=fun i=>rs.getD i .any
def sOf (ss:List Za):Nat→Za:=fun m=>ss.getD m []
theorem Vau {ops:List Oper} {env:Env} {rs rs':List AV}:∀ k,k≤rs.length→Va ops (rOf (rs++rs')) env tr k=Va ops (rOf rs) env tr k:=by
 intro k
 induction k with
 | zero=>intro _;rfl
 | succ k ih =>
  intro h
  simp only [Va]
  rw [ih (by omega)]
  congr 1
  simp only [rOf,List.getD_eq_getElem?_getD]
  rw [Qzl (by omega)]
structure Done (P:Program) (ops:List Oper) (H:List Nat) (env0:Env) (i:Nat) (rs:List AV) (es:List Env) (ss:List Za):Prop where
 rl:rs.length=i
 el:es.length=i
 sl:ss.length=H.countP (fun h=>decide (h<i))+1
 env:∀ j e,es[j]? = some e→e=Va ops (rOf rs) env0 tr j
 one:∀ (j:Nat) (o:Oper),j<i→ops[j]? = some o →
  (We ops (Va ops (rOf rs) env0 tr j).t o.guard=some true∧((H.contains j=false∧Lit P o (rOf rs j) (Va ops (rOf rs) env0 tr j))∨Yi P o (rOf rs j) (sOf ss (H.countP (fun h=>decide (h<j+1)))) (Va ops (rOf rs) env0 tr j) (sOf ss (H.countP (fun h=>decide (h<j)))))) ∨
  (We ops (Va ops (rOf rs) env0 tr j).t o.guard=some false∧rOf rs j=.tup []∧sOf ss (H.countP (fun h=>decide (h<j+1)))=sOf ss (H.countP (fun h=>decide (h<j))))
theorem Vaj {H:List Nat} (hH:∀ (p p' h h':Nat),H[p]? = some h→H[p']? = some h'→p<p'→h<h') (i:Nat):H.countP (fun h=>decide (h<i+1))=H.countP (fun h=>decide (h<i))+if H.contains i then 1 else 0:=by
 induction H with
 | nil=>simp
 | cons a H ih =>
  have ih':=ih fun p p' h h' h1 h2 h3=>hH (p+1) (p'+1) h h' (by simpa using h1) (by simpa using h2) (by omega)
  have hlt:∀ b∈H,a<b:=fun b hb=>by
   obtain ⟨p,hp⟩:=List.mem_iff_getElem?.1 hb
   exact hH 0 (p+1) a b rfl (by simpa using hp) (by omega)
  simp only [List.countP_cons,ih',List.contains_cons]
  by_cases e:i=a
  ·subst e
   have:H.contains i=false:=by
    rw [Bool.eq_false_iff]
    intro hx
    have:=hlt i (by simpa using hx)
    omega
   simp only [beq_self_eq_true,Bool.true_or,if_true,this,Bool.false_eq_true,if_false]
   simp
  ·have e':(i == a)=false:=by simpa using e
   rw [e',Bool.false_or]
   by_cases h1:a<i
   ·have a1:decide (a<i)=true:=by simpa using h1
    have a2:decide (a<i+1)=true:=by simp;omega
    simp only [a1,a2,if_true];omega
   ·have a1:decide (a<i)=false:=by simpa using h1
    have a2:decide (a<i+1)=false:=by simp;omega
    simp only [a1,a2,Bool.false_eq_true,if_false];omega
theorem Done.step {ops:List Oper} {H:List Nat} {env0:Env} {i:Nat} {rs:List AV} {es:List Env} {ss ss':List Za} {v:AV} {o:Oper} (hH:∀ (p p' h h':Nat),H[p]? = some h→H[p']? = some h'→p<p'→h<h')
  (hd:Done P ops H env0 i rs es ss) (ho:ops[i]? = some o) (hs:if H.contains i then ∃ s',ss'=ss++[s'] else ss'=ss)
  (h1:(We ops (Va ops (rOf rs) env0 tr i).t o.guard=some true∧((H.contains i=false∧Lit P o v (Va ops (rOf rs) env0 tr i))∨Yi P o v (sOf ss' (H.countP (fun h=>decide (h<i+1)))) (Va ops (rOf rs) env0 tr i) (sOf ss' (H.countP (fun h=>decide (h<i)))))) ∨
   (We ops (Va ops (rOf rs) env0 tr i).t o.guard=some false∧v=.tup []∧sOf ss' (H.countP (fun h=>decide (h<i+1)))=sOf ss' (H.countP (fun h=>decide (h<i))))) :
  Done P ops H env0 (i+1) (rs++[v]) (es++[Va ops (rOf rs) env0 tr i]) ss':=by
 have hrl:=hd.rl
 have hel:=hd.el
 have hsl:=hd.sl
 have hc:=Vaj hH i
 have sold:∀ m,m<ss.length→sOf ss' m=sOf ss m:=by
  intro m hm
  split at hs
  ·obtain ⟨s',rfl⟩:=hs
   simp only [sOf,List.getD_eq_getElem?_getD]
   rw [Qzl hm]
  ·rw [hs]
 refine ⟨by simp [hrl],by simp [hel],?_,fun j e hj=>?_,fun j o' hj ho'=>?_⟩
 ·rw [hc]
  split at hs
  ·rename_i hcc
   obtain ⟨s',rfl⟩:=hs
   rw [if_pos hcc,List.length_append,hsl];rfl
  ·rename_i hcc
   rw [hs,hsl,if_neg hcc]
 ·rcases Qzn j i with h | h
  ·rw [Qzl (by omega)] at hj
   rw [Vau j (by omega)]
   exact hd.env j e hj
  ·have:j=i:=by
    have:=(Qzs.1 hj).1
    simp at this;omega
   subst this
   rw [Qzr (by omega),hel] at hj
   simp at hj
   rw [Vau j (by omega)]
   exact hj.symm
 ·rw [Vau j (by omega)]
  rcases Qzn j i with h | h
  ·have hr:rOf (rs++[v]) j=rOf rs j:=by
    simp only [rOf,List.getD_eq_getElem?_getD]
    rw [Qzl (by omega)]
   have hmono:∀ a b:Nat,a≤b→H.countP (fun h=>decide (h<a))≤H.countP (fun h=>decide (h<b)):=fun a b hab=>List.countP_mono_left fun x _ hx=>by simp at hx ⊢;omega
   have m1:=hmono (j+1) i (by omega)
   have m2:=hmono j i (by omega)
   rw [hr,sold _ (by omega),sold _ (by omega)]
   exact hd.one j o' h ho'
  ·have:j=i:=by omega
   subst this
   rw [ho] at ho'
   obtain rfl:o=o':=by simpa using ho'
   have hr:rOf (rs++[v]) j=v:=by
    simp only [rOf,List.getD_eq_getElem?_getD]
    rw [Qzr (by omega),hrl]
    simp
   rw [hr]
   exact h1
theorem Done.draws {ops:List Oper} {H:List Nat} {W:List (Nat × Nat)} {env0:Env} {σ:Za} {rs:List AV} {es:List Env} {ss:List Za} (hok:Xo ops H=true) (hlv:Uab ops H W=true) (hs0:ss[0]? = some σ)
  (hd:Done P ops H env0 ops.length rs es ss) (hW:∀ x∈W,match ops[x.1]?,rs[x.1]?,es[x.1]?,ss[x.2]? with
   | some o,some v,some e,some s=>We ops e.t o.guard=some false∨Yi P o v s e s
   | _,_,_,_=>False):Draws P ops H env0 σ (rOf rs) (sOf ss):=by
 obtain ⟨_,_,hHlt,hHord⟩:=Vak hok
 refine ⟨by simp [sOf,hs0],fun i o ho hi=>?_,fun p i o hp ho=>?_⟩
 ·have hlt:=(Qzs.1 ho).1
  have hcc:H.contains i=false:=by simpa using hi
  have hc:=Vaj hHord i
  rw [hcc] at hc
  simp only [Bool.false_eq_true,if_false,Nat.add_zero] at hc
  rcases hd.one i o hlt ho with ⟨h1,h2⟩ | ⟨h1,h2,_⟩
  ·rcases h2 with ⟨_,h2⟩ | h2
   ·exact .inl ⟨h1,.inl h2⟩
   refine .inl ⟨h1,.inr fun m hm hall=>?_⟩
   rw [hc] at h2
   by_cases e:m=H.countP (fun h=>decide (h<i))
   ·subst e;exact h2
   ·unfold Uab at hlv
    simp only [List.all_eq_true,List.mem_range,Bool.or_eq_true] at hlv
    rcases hlv i hlt with h | h
    ·rw [hcc] at h;cases h
    ·rcases h m (by omega) with (h | h) | h
     ·simp at h;exact absurd h e
     ·have:=hW (i,m) (by simpa using h)
      simp only at this
      rw [ho] at this
      have hr:=Qze (show i<rs.length by rw [hd.rl];exact hlt)
      have he:=Qze (show i<es.length by rw [hd.el];exact hlt)
      have hsl:=hd.sl
      have hcn:H.countP (fun h=>decide (h<ops.length))=H.length:=by
       rw [List.countP_eq_length]
       intro a ha
       obtain ⟨q,hq⟩:=List.mem_iff_getElem?.1 ha
       simpa using hHlt q a hq
      have hs:=Qze (show m<ss.length by omega)
      rw [hr,he,hs] at this
      simp only at this
      have e1:=hd.env i _ he
      rcases this with this | this
      ·rw [e1,h1] at this;cases this
      ·rw [e1] at this
       have e2:rs[i]'(by rw [hd.rl];exact hlt)=rOf rs i:=by simp [rOf,hr]
       have e3:ss[m]'(by omega)=sOf ss m:=by simp [sOf,hs]
       rw [e2,e3] at this
       exact this
     ·rw [List.any_eq_true] at h
      obtain ⟨⟨h',p⟩,hmem,hx⟩:=h
      have hp:=List.mem_zipIdx_iff_getElem?.1 hmem
      simp only at hp hx
      have hpp:H[p]? = some h':=by simpa using hp
      obtain ⟨a1,a2⟩:=hall p h' hpp
      simp only [Bool.or_eq_true,Bool.and_eq_true,Bool.not_eq_true',decide_eq_false_iff_not] at hx
      rcases hx with ⟨b1,b2⟩ | ⟨b1,b2⟩
      ·exact absurd (a1 b1) b2
      ·exact absurd (a2 b1) b2
  ·exact .inr ⟨h1,h2⟩
 ·have hlt:=(Qzs.1 ho).1
  have hcp:H.countP (fun h=>decide (h<i))=p:=by
   have hpl:=(Qzs.1 hp).1
   have e1:(H.take p).countP (fun h=>decide (h<i))=p:=by
    rw [List.countP_eq_length.2]
    ·simp;omega
    ·intro a ha
     obtain ⟨q,hq⟩:=List.mem_iff_getElem?.1 ha
     have hql:=(Qzs.1 hq).1
     simp at hql
     rw [List.getElem?_take_of_lt (by omega)] at hq
     simpa using hHord q p a i hq hp (by omega)
   have e2:(H.drop p).countP (fun h=>decide (h<i))=0:=by
    rw [List.countP_eq_zero]
    intro a ha
    obtain ⟨q,hq⟩:=List.mem_iff_getElem?.1 ha
    rw [List.getElem?_drop] at hq
    rcases Nat.eq_zero_or_pos q with h0 | h0
    ·subst h0;simp at hq;rw [hp] at hq;simp at hq;subst hq;simp
    ·have:=hHord p (p+q) i a hp hq (by omega)
     simp;omega
   rw [← List.take_append_drop p H,List.countP_append,e1,e2,Nat.add_zero]
  have hc:=Vaj hHord i
  have hci:H.contains i=true:=by simpa using mem_of_getElem? hp
  rw [hci] at hc
  simp only [if_true] at hc
  rw [hcp] at hc
  rcases hd.one i o hlt ho with ⟨h1,h2⟩ | ⟨h1,h2,h3⟩
  ·rcases h2 with ⟨h2,_⟩ | h2
   ·rw [hci] at h2;cases h2
   rw [hc,hcp] at h2;exact .inl ⟨h1,h2⟩
  ·rw [hc,hcp] at h3;exact .inr ⟨h1,h2,h3⟩
theorem Zco {ops:List Oper} {H:List Nat} {W:List (Nat × Nat)} {K:Env→Za→Prop} {env0:Env} {σ:Za} (hok:Xo ops H=true) (hlv:Uab ops H W=true):∀ (rest dn:List Oper) (i:Nat) (s:Za) (rs:List AV) (es:List Env) (ss:List Za),ops=dn++rest→dn.length=i →
  Done P ops H env0 i rs es ss→ss[0]? = some σ→sOf ss (H.countP (fun h=>decide (h<i)))=s→adr P ops H W K rest i (Va ops (rOf rs) env0 tr i) s rs es ss →
  ∃ (r:Nat→AV) (S:Nat→Za),Draws P ops H env0 σ r S∧K (Va ops r env0 tr ops.length) (S H.length):=by
 obtain ⟨_,_,hHlt,hHord⟩:=Vak hok
 intro rest
 induction rest with
 | nil =>
  intro dn i s rs es ss h1 h2 hd hs0 hs h
  simp at h1
  subst h1
  subst h2
  obtain ⟨hW,hK⟩:=h
  have hcn:H.countP (fun h=>decide (h<ops.length))=H.length:=by
   rw [List.countP_eq_length]
   intro a ha
   obtain ⟨q,hq⟩:=List.mem_iff_getElem?.1 ha
   simpa using hHlt q a hq
  refine ⟨rOf rs,sOf ss,hd.draws hok hlv hs0 hW,?_⟩
  rw [hcn] at hs
  rw [hs]
  exact hK
 | cons o rest ih =>
  intro dn i s rs es ss h1 h2 hd hs0 hs h
  have ho:ops[i]? = some o:=by rw [h1,← h2];simp
  have hc:=Vaj hHord i
  have hrl:=hd.rl
  have hsl:=hd.sl
  have next:∀ (v:AV) (ss':List Za) (s':Za),(if H.contains i then ss'=ss++[s'] else ss'=ss∧s'=s) →
    ((We ops (Va ops (rOf rs) env0 tr i).t o.guard=some true∧((H.contains i=false∧Lit P o v (Va ops (rOf rs) env0 tr i))∨Yi P o v s' (Va ops (rOf rs) env0 tr i) s)) ∨
      (We ops (Va ops (rOf rs) env0 tr i).t o.guard=some false∧v=.tup []∧s'=s)) →
    adr P ops H W K rest (i+1) ((Va ops (rOf rs) env0 tr i).put o.dst v) s' (rs++[v]) (es++[Va ops (rOf rs) env0 tr i]) ss' →
    ∃ (r:Nat→AV) (S:Nat→Za),Draws P ops H env0 σ r S∧K (Va ops r env0 tr ops.length) (S H.length):=by
   intro v ss' s' hss hw hrest
   have hs1:sOf ss' (H.countP (fun h=>decide (h<i)))=s:=by
    rw [← hs]
    split at hss
    ·rw [hss]
     simp only [sOf,List.getD_eq_getElem?_getD]
     rw [Qzl (by omega)]
    ·rw [hss.1]
   have hs2:sOf ss' (H.countP (fun h=>decide (h<i+1)))=s':=by
    rw [hc]
    split at hss
    ·rename_i hcc
     rw [hss,if_pos hcc]
     simp only [sOf,List.getD_eq_getElem?_getD]
     rw [Qzr (by omega),hsl]
     simp
    ·rename_i hcc
     rw [if_neg hcc,Nat.add_zero,hss.1,hs,hss.2]
   have hd':=hd.step (v:=v) (ss':=ss') hHord ho (by
    split
    ·rename_i hcc;rw [if_pos hcc] at hss;exact ⟨s',hss⟩
    ·rename_i hcc;rw [if_neg hcc] at hss;exact hss.1) (by rw [hs1,hs2];exact hw)
   have henv:Va ops (rOf (rs++[v])) env0 tr (i+1)=(Va ops (rOf rs) env0 tr i).put o.dst v:=by
    simp only [Va,ho,tr,if_true]
    rw [Vau i (by omega),Option.bind_some]
    congr 1
    simp only [rOf,List.getD_eq_getElem?_getD]
    rw [Qzr (by omega),hrl]
    simp
   refine ih (dn++[o]) (i+1) s' _ _ ss' (by simp [h1]) (by simp [h2]) hd' ?_ hs2 ?_
   ·split at hss
    ·rw [hss,Qzl (by omega)];exact hs0
    ·rw [hss.1];exact hs0
   ·rw [henv];exact hrest
  unfold adr at h
  split at h
  ·rename_i hw
   rcases h with ⟨v,hlit,hf,hr⟩ | h
   ·have hcc:H.contains i=false:=by
     rw [Bool.and_eq_true,Bool.not_eq_true'] at hlit
     exact hlit.2
    exact next v _ s (by rw [hcc];exact ⟨rfl,rfl⟩) (.inl ⟨hw,.inl ⟨hcc,hf⟩⟩) hr
   split at h
   ·split at h
    ·rename_i hcc
     obtain ⟨v,s',hf,hr⟩:=h
     exact next v _ s' (by rw [if_pos hcc]) (.inl ⟨hw,.inr hf⟩) hr
    ·rename_i hcc
     obtain ⟨v,hf,hr⟩:=h
     exact next v _ s (by rw [if_neg hcc];exact ⟨rfl,rfl⟩) (.inl ⟨hw,.inr hf⟩) hr
   ·rename_i hcall
    split at h
    ·rename_i v s' hop
     have hf:=Va3 (by simpa using hcall) hop
     split at h
     ·rename_i hcc
      exact next v _ s' (by rw [if_pos hcc]) (.inl ⟨hw,.inr hf⟩) h
     ·rename_i hcc
      obtain ⟨rfl,hr⟩:=h
      exact next v _ s' (by rw [if_neg hcc];exact ⟨rfl,rfl⟩) (.inl ⟨hw,.inr hf⟩) hr
    ·cases h
  ·rename_i hw
   split at h
   ·rename_i hcc
    exact next (.tup []) _ s (by rw [if_pos hcc]) (.inr ⟨hw,rfl,rfl⟩) h
   ·rename_i hcc
    exact next (.tup []) _ s (by rw [if_neg hcc];exact ⟨rfl,rfl⟩) (.inr ⟨hw,rfl,rfl⟩) h
  ·cases h
theorem Wal {rd:Option Nat} {id:Nat} {opsA:Array Oper} {Q:Exit→Env→Za→Prop} {env:Env} {σ:Za} (H:List Nat) (W:List (Nat × Nat)) (hm:P.follows .mixedOrders=true) (hok:(Xo opsA.toList H&&Uab opsA.toList H W)=true)
  (h:adr P opsA.toList H W (Q .normal) opsA.toList 0 env σ [] [] [σ]):ACode P rd (.region id opsA true) Q env σ:=by
 rw [Bool.and_eq_true] at hok
 obtain ⟨r,S,hd,hK⟩:=Zco (P:=P) (env0:=env) (σ:=σ) hok.1 hok.2 opsA.toList [] 0 σ [] [] [σ] rfl rfl ⟨rfl,rfl,by simp,fun j e h=>by simp at h,fun j o h=>by omega⟩ rfl (by simp [sOf]) h
 exact Vca hm H r S hok.1 hd (by simpa using hK)
end Ab
namespace Ab
open Go Go.RowKit
variable [Mode]
attribute [simp] Wak ofValue ofCell Yau Xa3 Ya5 aun Zae Wb Vb QFn Up Yw abd AV.cells AV.one AV.known
theorem Zb {P:Program} {f:FuncId} {fn:Func} (hf:P.funcs[f]? = some fn) (hn:(fn.name == "runtime.NumGoroutine")=false) (hb:fn.body.isNone=false):Enters P f:=by
 intro args w
 simp only [callFunc,Sem.run_bind,run_program,Result.andThen_ok,hf,hn,Bool.false_eq_true,if_false,hb,Sem.run_pure]
end Ab

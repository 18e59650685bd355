/-
  Texts packed for a claim.
-/
import Derived.Test.YtcoikmapjepdjaaGreatDoorO00
import Derived.Test.YtcoikmapjepdjaaGreatDoorO30
import Derived.Test.YtcoikmapjepdjaaGreatDoorO43
set_option linter.all false
namespace Ab
open Go Go.RowKit Go.Proofs
def bkC (men K:Nat) (a b c:AV):AObj:=.cells [.int .i64 men,.int .i64 K,a,b,c]
def Xaq (m:Nat):AObj:=.cells (List.replicate 8 (.pl 1 [.int .i64 m]))
def Ys (men:Nat):AV:=.pl 1 ((Vab men).map fun x=>AV.pl 1 (x.map fun z=>AV.pl 1 (z.map fun y=>AV.int .i64 y)))
def ThD (H0:Za) (p men K:Nat) (X1 X8 X10 FF:AV) (env:Env) (σ':Za):Prop:=∃ (u:List AV) (m:Nat) (v:AV) (L:List AV) (o:Option Nat) (g:Za),env={ t:=u }∧u.length=315∧tg u 1=X1∧tg u 7=.ptr p 0∧tg u 8=X8∧tg u 10=X10∧tg u 23=FF∧tg u 27=.ptr H0.length 0∧tg u 195=.int .i64 men∧tg u 196=.int .i64 m∧m≤men ∧
 σ'=H0++(bkC men K v .nils .nils::g)∧Acc (H0++[zRl]) g 1 v L o∧L.length=m∧∀ k,k<m→∃ q,L[k]? = some (.arr 1 (H0.length+1+q) 0 8)∧g[q]? = some (Xaq k)∧some q≠o
def Vck (H0:Za) (p men K:Nat) (X1 X8 X10 FF:AV) (env:Env) (σ':Za):Prop:=ThD H0 p men K X1 X8 X10 FF env σ'∧tg env.t 196=.int .i64 men
attribute [local irreducible] aws awp aw1 Og Om Oc Oa Ogd Ov Ot awd Zb awh Wb Ogh Ohd awl Ogl Ohl awv Ogv Ohv Xb Vb QFn Ub Xi QRo QBe Ui Uj ACode AYield
set_option maxRecDepth 20000 in
set_option maxHeartbeats 8000000 in
theorem Uh2 {H0:Za} {p men K:Nat} {X1 X8 X10 FF:AV} {ntcs:List AV} (hp:H0[p]? = some (.cells [.int .i64 men,.pl 2 ntcs])) (hK:ntcs.length=K) (hm4:men≤4) (Q:AV→Za→Prop) {u:List AV} (hl:u.length=315) (g1:tg u 1=X1) (g7:tg u 7=.ptr p 0) (g8:tg u 8=X8) (g10:tg u 10=X10) (g23:tg u 23=FF)
  (h:∀ (env:Env) (s:Za),Vck H0 p men K X1 X8 X10 FF env s→ACode Tryz.prog none (Vd 2 (Vd 9 (Vd 8 (Tryz.f5.body.getD .skip)).2).2).2 (QFn Tryz.prog Tryz.f5 Q) env s) :
  ACode Tryz.prog none (Vd 9 (Vd 8 (Tryz.f5.body.getD .skip)).2).2 (QFn Tryz.prog Tryz.f5 Q) { t:=u } H0:=by
 refine Was (n:=2) (Vck H0 p men K X1 X8 X10 FF) h ?_
 have hpl:=(Qzs.1 hp).1
 have hpX:∀ X:Za,(H0++X)[p]? = some (.cells [.int .i64 men,.pl 2 ntcs]):=fun X=>by rw [Qzl hpl];exact hp
 dsimp only [Tryz.f5,Option.getD]
 simp [-Xa,Za0,Va0,hl,g1,g7,g8,g10,g23,hp,hpX,hK]
 refine Xc (ThD H0 p men K X1 X8 X10 FF) (fun env _=>match tg env.t 196 with | .int _ i=>men - i.toNat | _=>0) ⟨_,0,.nils,[],none,[],rfl,by simp [hl],by simp [hl,g1],by simp [hl,g7],by simp [hl,g8],by simp [hl,g10],by simp [hl,g23],by simp [hl],by simp [hl],by simp [hl],by omega,rfl,Acc.nil _ _ _,rfl,fun k hk=>by omega⟩ ?_
 clear hl g1 g7 g8 g10 g23 u
 rintro env _ ⟨u,m,v,L,o,g,rfl,hl,g1,g7,g8,g10,g23,g27,g195,g196,hm,rfl,hA,hL,hrows⟩
 rcases Qzn m men with hlt | hge
 ·have hlt':(m:Int)<(men:Int):=by omega
  have hx:=w64 (n:=(m:Int)+1) (by omega) (by omega)
  have hb:∀ X:Za,(H0++(bkC men K v .nils .nils::(g++X)))[H0.length]? = some (.cells [.int .i64 men,.int .i64 K,v,.nils,.nils]):=fun X=>by rw [Qzr (Nat.le_refl _),Nat.sub_self];rfl
  have hb0:=hb []
  rw [List.append_nil] at hb0
  simp [-Xa,hl,g1,g7,g8,g10,g23,g27,g195,g196,hlt,hlt']
  refine Ut [5,6,7,9] [(0,1),(0,2),(1,1),(1,2)] mixed (by kernel_rfl) (by kernel_rfl) ?_
  obtain ⟨v',g',o',he,hA',hlen,hkeep,ho⟩:=((hA.more [Xaq m]).base (σ':=H0++[bkC men K v .nils .nils]) (by simp)).push (P:=Tryz.prog) (t:=97) (e:=38) (ag:=false) (x:=.arr 1 (H0.length+(g.length+1)) 0 8) (by simp) (by simp) (by simp) (by omega) ⟨rfl,by simp [AV.cells,AV.one]⟩ (by simp;omega)
  have crp:=Wif (H0++(bkC men K v .nils .nils::g)) m
  rw [show (H0++[bkC men K v .nils .nils]).length+(g++[Xaq m]).length=H0.length+(g.length+1+1) by simp;omega] at he
  obtain ⟨jo,rfl⟩:∃ jo,o'=some jo:=by
   cases o' with
   | none=>exact absurd hA'.val.2 (by simp)
   | some jo=>exact ⟨jo,rfl⟩
  have hv':=hA'.val.1
  have hA2:=hA'.base (σ':=H0++[zRl]) (by simp)
  have hol:∀ x,o=some x→x<g.length:=fun x e=>by
   have:=hA.val
   rw [e] at this
   exact (Qzs.1 this.2).1
  have hjo:some jo=o∨g.length+1≤jo:=by
   rcases ho with h1 | ⟨y,h2,h1⟩
   ·exact .inl h1
   ·exact .inr (by simp at h1 h2;omega)
  have hrows2:∀ k,k<m+1→∃ q,(L++[AV.arr 1 (H0.length+(g.length+1)) 0 8])[k]? = some (.arr 1 (H0.length+1+q) 0 8)∧g'[q]? = some (Xaq k)∧some q≠some jo:=fun k hk=>by
   rcases Qzn k m with hkm | hkm
   ·obtain ⟨q,q1,q2,q3⟩:=hrows k hkm
    have hql:=(Qzs.1 q2).1
    refine ⟨q,by rw [Qzl (by omega)];exact q1,by rw [hkeep q q3 (by simp;omega),Qzl hql];exact q2,fun e=>?_⟩
    rcases hjo with h4 | h4
    ·exact q3 (e.trans h4)
    ·have:=Option.some.inj e;omega
   ·obtain rfl:k=m:=by omega
    refine ⟨g.length,by rw [Qzr (by omega),hL,Nat.sub_self,show H0.length+(g.length+1)=H0.length+1+g.length by omega];rfl,by rw [hkeep _ (fun e=>by have:=hol _ e.symm;omega) (by simp),Qzr (Nat.le_refl _),Nat.sub_self];rfl,fun e=>?_⟩
    rcases hjo with h4 | h4
    ·have:=hol _ (h4.symm.trans e.symm);omega
    ·have:=Option.some.inj e;omega
  rw [hv'] at he
  simp [-Xa,bkC,Xaq,AV.cells,List.replicate] at he
  simp [-Xa,hl,g1,g7,g8,g10,g23,g27,g195,g196,hb0,bkC]
  refine Uaa (xs:=[]) (args:=[.pl 1 [.pl 1 [.int .i64 m]],.int .i64 8]) (ys:=[]) crp ?_
  simp [-Xa,hl,g1,g7,g8,g10,g23,g27,g195,g196,hb0,bkC]
  rw [he,Xk]
  simp [-Xa,hl,g1,g7,g8,g10,g23,g27,g195,g196,hx]
  refine ⟨⟨_,m+1,_,_,some jo,g',rfl,by simp [hl],by simp [hl,g1],by simp [hl,g7],by simp [hl,g8],by simp [hl,g10],by simp [hl,g23],by simp [hl,g27],by simp [hl,g195],by simp [hl],hlt,?_,hA2,by simp [hL],hrows2⟩,by omega⟩
  rw [hv']
  simp [bkC]
 ·obtain rfl:m=men:=by omega
  simp [-Xa,hl,g1,g7,g8,g10,g23,g27,g195,g196]
  exact ⟨⟨_,m,v,L,o,g,rfl,by simp [hl],by simp [hl,g1],by simp [hl,g7],by simp [hl,g8],by simp [hl,g10],by simp [hl,g23],by simp [hl,g27],by simp [hl,g195],by simp [hl,g196],by omega,rfl,hA,hL,hrows⟩,by simp [hl,g196]⟩
theorem Yh5 {b g T:Za} {v:AV} {L:List AV} {o:Option Nat} {men:Nat} (hA:Acc b g 1 v L o) (hL:L.length=men) (hrows:∀ k,k<men→∃ q,L[k]? = some (.arr 1 (b.length+q) 0 8)∧g[q]? = some (Xaq k)) (hT:∀ (j:Nat) x,g[j]? = some (.cells x)→T[b.length+j]? = some (.cells x)):Fz 0 T v (Ys men):=by
 refine hA.fzG (by omega) (Nat.zero_le _) (fun j x _ e=>hT j x e) (by simp [Vab,hL]) fun i x y hx hy=>?_
 have hi:i<men:=by rw [← hL];exact (Qzs.1 hx).1
 obtain ⟨q,h1,h2⟩:=hrows i hi
 rw [hx] at h1
 obtain rfl:=Option.some.inj h1
 have hy':y=.pl 1 (List.replicate 8 (.pl 1 [.int .i64 i])):=by
  rw [Qzp] at hy
  unfold Vab at hy
  rw [Qzp,List.getElem?_range hi] at hy
  simp at hy
  exact hy.symm
 subst hy'
 refine ⟨rfl,fun z hz=>?_,fun j a b ha hb=>?_⟩
 ·simp only [AV.cells,List.mem_singleton] at hz;subst hz;rfl
 ·match j,ha,hb with
  | 0,ha,hb =>
   simp only [AV.cells,List.getElem?_cons_zero,Option.some.injEq] at ha hb
   subst ha;subst hb
   have:=Ubz (n:=0) (σ:=T) (cs:=List.replicate 8 (.pl 1 [.int .i64 i])) (Nat.zero_le _) (hT q _ h2) fun y hy=>by
    rw [(List.mem_replicate.1 hy).2]
    refine ⟨rfl,rfl,.pl 1 _ fun i x hx j y hy=>?_⟩
    have:=Qzg hx
    simp at this
    subst this
    have:=Qzg hy
    simp [AV.cells] at this
    subst this
    exact .int _ _
   rw [List.length_replicate] at this
   exact this
  | j+1,ha,hb=>simp [AV.cells] at ha
def ThE (H0 dd:Za) (p men K slots:Nat) (hp X10 FF:AV) (l2:List UInt8) (env:Env) (σ':Za):Prop:=∃ (u:List AV) (s:Nat) (v:AV) (l:List Int) (a:Nat) (c:Int) (o:Option Nat) (g:Za),env={ t:=u }∧u.length=315∧tg u 7=.ptr p 0∧tg u 10=X10∧tg u 23=FF∧tg u 27=.ptr H0.length 0∧tg u 29=.ptr (H0.length+(dd.length+1)) 0∧tg u 212=.int .i64 slots∧tg u 213=.int .i64 s∧s≤slots ∧
 σ'=H0++(bkC men K hp v .nils::(dd++(Yd l2 a c::g)))∧Acc (H0++(zRl::(dd++[zRl]))) g 1 v (Ya l) o∧l.length=s∧(∀ x∈l,0≤x∧x≤1)∧a≤l2.length
def Wcd (H0 dd:Za) (p men K slots:Nat) (hp X10 FF:AV) (l2:List UInt8) (env:Env) (σ':Za):Prop:=ThE H0 dd p men K slots hp X10 FF l2 env σ'∧tg env.t 213=.int .i64 slots
set_option maxRecDepth 20000 in
set_option maxHeartbeats 8000000 in
theorem Zg7 {H0 dd:Za} {p men K slots:Nat} {hp X10 FF:AV} {P8:List AV} {l2:List UInt8} (h2:l2.length≤9223372036854775807) (h8:P8.length=slots) (hs6:slots≤6) (Q:AV→Za→Prop) {u:List AV} (hl:u.length=315) (g1:tg u 1=.pl 1 (Zi l2)) (g7:tg u 7=.ptr p 0) (g8:tg u 8=.pl 1 P8) (g10:tg u 10=X10) (g23:tg u 23=FF) (g27:tg u 27=.ptr H0.length 0)
  (h:∀ (env:Env) (s:Za),Wcd H0 dd p men K slots hp X10 FF l2 env s→ACode Tryz.prog none (Vd 2 (Vd 2 (Vd 9 (Vd 8 (Tryz.f5.body.getD .skip)).2).2).2).2 (QFn Tryz.prog Tryz.f5 Q) env s) :
  ACode Tryz.prog none (Vd 2 (Vd 9 (Vd 8 (Tryz.f5.body.getD .skip)).2).2).2 (QFn Tryz.prog Tryz.f5 Q) { t:=u } (H0++(bkC men K hp .nils .nils::dd)):=by
 refine Was (n:=2) (Wcd H0 dd p men K slots hp X10 FF l2) h ?_
 dsimp only [Tryz.f5,Option.getD]
 simp [-Xa,Za0,Va0,hl,g1,g7,g8,g10,g23,g27]
 refine StA.of ((Zb4 _ _ rfl).mono ?_)
 rintro _ _ ⟨rfl,rfl⟩
 simp [-Xa,hl,g1,g7,g8,g10,g23,g27,h8]
 refine Xc (ThE H0 dd p men K slots hp X10 FF l2) (fun env _=>match tg env.t 213 with | .int _ i=>slots - i.toNat | _=>0) ⟨_,0,.nils,[],0,0,none,[],rfl,by simp [hl],by simp [hl,g7],by simp [hl,g10],by simp [hl,g23],by simp [hl,g27],by simp [hl],by simp [hl],by simp [hl],by omega,by simp [Yd],by simpa [Ya] using Acc.nil _ _ _,rfl,by simp,by omega⟩ ?_
 clear hl g1 g7 g8 g10 g23 g27 u
 rintro env _ ⟨u,s,v,l,a,c,o,g,rfl,hl,g7,g10,g23,g27,g29,g212,g213,hs,rfl,hA,hll,hlb,ha⟩
 rcases Qzn s slots with hlt | hge
 ·have hlt':(s:Int)<(slots:Int):=by omega
  have hx:=w64 (n:=(s:Int)+1) (by omega) (by omega)
  have hb:∀ X:Za,(H0++(bkC men K hp v .nils::X))[H0.length]? = some (.cells [.int .i64 men,.int .i64 K,hp,v,.nils]):=fun X=>by rw [Qzr (Nat.le_refl _),Nat.sub_self];rfl
  have hbell:(H0++(bkC men K hp v .nils::(dd++(Yd l2 a c::g))))[H0.length+(dd.length+1)]? = some (Yd l2 a c):=by simp
  obtain ⟨tm,a6,c6,hst,t1,t2,ha6⟩:=Ucx _ _ l2 a c 0 1 hbell ha h2 (by omega) (by omega) (by omega)
  have hset:(H0++(bkC men K hp v .nils::(dd++(Yd l2 a c::g)))).set (H0.length+(dd.length+1)) (Yd l2 a6 c6)=H0++(bkC men K hp v .nils::(dd++(Yd l2 a6 c6::g))):=by simp
  rw [hset] at hst
  simp [-Xa,hl,g7,g10,g23,g27,g29,g212,g213,hlt,hlt']
  refine Ut [3,5,7] [(0,1),(1,1)] mixed (by kernel_rfl) (by kernel_rfl) ?_
  obtain ⟨v',g',o',he,hA',_,_,_⟩:=(hA.base (σ':=H0++(bkC men K hp v .nils::(dd++[Yd l2 a6 c6]))) (by simp)).app (P:=Tryz.prog) (t:=32) (e:=3) (ag:=false) (ys:=[.int .i64 tm]) (y:=.pl 1 [.int .i64 tm]) (by simp) (by simp) (by simp) (by omega) (fun y hy=>by
   rw [List.mem_singleton.1 hy]
   exact ⟨rfl,by simp [AV.cells,AV.one]⟩) (by simp [AV.cells]) (by simp [Ya];omega)
  have e1:Ya l++[.int .i64 tm]=Ya (l++[tm]):=by simp [Ya]
  rw [e1] at hA'
  obtain ⟨jo,rfl⟩:∃ jo,o'=some jo:=by
   cases o' with
   | none=>exact absurd hA'.val.2 (by simp [Ya])
   | some jo=>exact ⟨jo,rfl⟩
  have hv':=hA'.val.1
  have hA2:=hA'.base (σ':=H0++(zRl::(dd++[zRl]))) (by simp)
  rw [hv'] at he
  simp [-Xa,bkC] at he
  simp [-Xa,hl,g7,g10,g23,g27,g29,g212,g213,hb,bkC]
  simp only [bkC] at hst
  refine Uaa (xs:=[]) (args:=[.ptr (H0.length+(dd.length+1)) 0,.int .i64 0,.int .i64 1]) (ys:=[]) hst ?_
  simp [-Xa,hl,g7,g10,g23,g27,g29,g212,g213]
  rw [he,Xk]
  simp [-Xa,hl,g7,g10,g23,g27,g29,g212,g213,hx]
  refine ⟨⟨_,s+1,_,l++[tm],a6,c6,some jo,g',rfl,by simp [hl],by simp [hl,g7],by simp [hl,g10],by simp [hl,g23],by simp [hl,g27],by simp [hl,g29],by simp [hl,g212],by simp [hl],hlt,?_,hA2,by simp [hll],fun x hx=>?_,ha6⟩,by omega⟩
  ·rw [hv']
   simp [bkC]
  ·rcases List.mem_append.1 hx with h3 | h3
   ·exact hlb x h3
   ·rw [List.mem_singleton.1 h3];exact ⟨t1,t2⟩
 ·obtain rfl:s=slots:=by omega
  simp [-Xa,hl,g7,g10,g23,g27,g29,g212,g213]
  exact ⟨⟨_,s,v,l,a,c,o,g,rfl,by simp [hl],by simp [hl,g7],by simp [hl,g10],by simp [hl,g23],by simp [hl,g27],by simp [hl,g29],by simp [hl,g212],by simp [hl,g213],by omega,rfl,hA,hll,hlb,ha⟩,by simp [hl,g213]⟩
def crE (e:Ent):AV:=.agg [.int .i64 (e.1:Nat),.int .i64 (e.2.1:Nat),.int .i64 e.2.2]
theorem Xg4 (s m n:Nat) (hm:m≤9) (v:Int):(Zl (s,m,v)).tdiv 10=s∧(Zl (s,m,v)).tmod 10=m:=by
 have e:Zl (s,m,v)=10*(s:Int)+(m:Int):=rfl
 rw [e]
 constructor
 ·rw [Int.tdiv_eq_ediv_of_nonneg (by omega)];omega
 ·rw [Int.tmod_eq_emod_of_nonneg (by omega)];omega
def ThG (H0 dd:Za) (p men K:Nat) (hp rp X10:AV) (E:List Ent) (env:Env) (σ':Za):Prop:=∃ (u:List AV) (k:Nat) (v:AV) (o:Option Nat) (g:Za),env={ t:=u }∧u.length=315∧tg u 7=.ptr p 0∧tg u 10=X10∧tg u 27=.ptr H0.length 0∧tg u 223=.pl 3 ((Yj Xh E).map Yg)∧tg u 224=.int .i64 E.length∧tg u 225=.int .i64 k∧k≤E.length ∧
 σ'=H0++(bkC men K hp rp v::(dd++g))∧Acc (H0++(zRl::dd)) g 3 v ((E.take k).map crE) o
def Ybl (H0 dd:Za) (p men K:Nat) (hp rp X10:AV) (E:List Ent) (env:Env) (σ':Za):Prop:=ThG H0 dd p men K hp rp X10 E env σ'∧tg env.t 225=.int .i64 E.length
set_option maxRecDepth 20000 in
set_option maxHeartbeats 8000000 in
theorem Vhh {H0 dd:Za} {p men K:Nat} {hp rp X10:AV} {E:List Ent} (hEok:EntsOk E) (Q:AV→Za→Prop) {u:List AV} (hl:u.length=315) (g7:tg u 7=.ptr p 0) (g10:tg u 10=X10) (g23:tg u 23=.pl 3 ((Yj Xh E).map Yg)) (g27:tg u 27=.ptr H0.length 0)
  (h:∀ (env:Env) (s:Za),Ybl H0 dd p men K hp rp X10 E env s→ACode Tryz.prog none (Vd 1 (Vd 2 (Vd 2 (Vd 9 (Vd 8 (Tryz.f5.body.getD .skip)).2).2).2).2).2 (QFn Tryz.prog Tryz.f5 Q) env s) :
  ACode Tryz.prog none (Vd 2 (Vd 2 (Vd 9 (Vd 8 (Tryz.f5.body.getD .skip)).2).2).2).2 (QFn Tryz.prog Tryz.f5 Q) { t:=u } (H0++(bkC men K hp rp .nils::dd)):=by
 refine Was (n:=1) (Ybl H0 dd p men K hp rp X10 E) h ?_
 have hFl:((Yj Xh E).map Yg).length=E.length:=by simp [Yj]
 obtain ⟨FF,hFF⟩:∃ FF,(Yj Xh E).map Yg=FF:=⟨_,rfl⟩
 have hE40:=hEok.len
 dsimp only [Tryz.f5,Option.getD]
 unfold Ybl ThG
 rw [hFF] at hFl g23 ⊢
 simp [-Xa,Za0,Va0,hl,g7,g10,g23,g27,hFl]
 refine Xc (fun env σ'=>∃ (u:List AV) (k:Nat) (v:AV) (o:Option Nat) (g:Za),env={ t:=u }∧u.length=315∧tg u 7=.ptr p 0∧tg u 10=X10∧tg u 27=.ptr H0.length 0∧tg u 223=.pl 3 FF∧tg u 224=.int .i64 E.length∧tg u 225=.int .i64 k∧k≤E.length ∧
   σ'=H0++(bkC men K hp rp v::(dd++g))∧Acc (H0++(zRl::dd)) g 3 v ((E.take k).map crE) o) (fun env _=>match tg env.t 225 with | .int _ i=>E.length - i.toNat | _=>0) ⟨_,0,.nils,none,[],rfl,by simp [hl],by simp [hl,g7],by simp [hl,g10],by simp [hl,g27],by simp [hl],by simp [hl],by simp [hl],by omega,by simp,by simpa using Acc.nil _ _ _⟩ ?_
 clear hl g7 g10 g23 g27 u
 rintro env _ ⟨u,k,v,o,g,rfl,hl,g7,g10,g27,g223,g224,g225,hk,rfl,hA⟩
 rcases Qzn k E.length with hlt | hge
 ·have hlt':(k:Int)<(E.length:Int):=by omega
  have hx:=w64 (n:=(k:Int)+1) (by omega) (by omega)
  obtain ⟨e,he⟩:∃ e,E[k]=e:=⟨_,rfl⟩
  have heE:e∈E:=he▸List.getElem_mem hlt
  obtain ⟨s1,m1,n1⟩:=e
  have hval:=hEok.val _ heE
  have hm:=hEok.num _ heE
  simp only at hval hm
  have hFk:k<FF.length:=by omega
  have hFg:FF[k]'hFk=.agg [.int .i64 1,.int .i64 (Zl (s1,m1,n1)),.pl 1 [.str (Xh (s1,m1,n1))]]:=by
   subst hFF
   simp [Yj,he,Yg,Xl,strs]
  obtain ⟨hdiv,hmod⟩:=Xg4 s1 m1 0 (by omega) n1
  have hw1:=w64 (n:=(s1:Int)) (by omega) (by omega)
  have hw2:=w64 (n:=(m1:Int)) (by omega) (by omega)
  have cat:=Yb5 (Xh (s1,m1,n1)) (by have:=(Xb9 hEok _ heE).2;omega)
  have hat:Ya1 (Xh (s1,m1,n1))=.tup [.int .i64 n1,.nili]:=(Vb4 hval.1 hval.2).2.2
  rw [hat] at cat
  obtain ⟨W0,hW0⟩:∃ W0,Xh (s1,m1,n1)=W0:=⟨_,rfl⟩
  obtain ⟨N0,hN0⟩:∃ N0,Zl (s1,m1,n1)=N0:=⟨_,rfl⟩
  rw [hW0] at cat hFg
  rw [hN0] at hFg hdiv hmod
  have hsnoc:(E.take k).map crE++[crE (s1,m1,n1)]=(E.take (k+1)).map crE:=by
   rw [Qzt hlt,he];simp
  obtain ⟨v',g',o',heq,hA',_,_,_⟩:=((hA.more [.cells [.int .i64 1,.int .i64 N0,.pl 1 [.str W0]]]).base (σ':=H0++(bkC men K hp rp v::dd)) (by simp)).push (P:=Tryz.prog) (t:=98) (e:=108) (ag:=true) (x:=crE (s1,m1,n1)) (by simp) (by simp) (by simp) (by omega) ⟨rfl,by simp [AV.cells,AV.one,crE]⟩ (by simp;omega)
  rw [hsnoc] at hA'
  obtain ⟨jo,rfl⟩:∃ jo,o'=some jo:=by
   cases o' with
   | none=>exact absurd hA'.val.2 (by rw [← hsnoc];simp)
   | some jo=>exact ⟨jo,rfl⟩
  have hv':=hA'.val.1
  have hA2:=hA'.base (σ':=H0++(zRl::dd)) (by simp)
  rw [hv',show (H0++(bkC men K hp rp v::dd)).length+(g++[AObj.cells [.int .i64 1,.int .i64 N0,.pl 1 [.str W0]]]).length=H0.length+(dd.length+(g.length+1)+1) by simp;omega] at heq
  simp [-Xa,bkC,crE,AV.cells] at heq
  have hb:∀ X:Za,(H0++(bkC men K hp rp v::X))[H0.length]? = some (.cells [.int .i64 men,.int .i64 K,hp,rp,v]):=fun X=>by rw [Qzr (Nat.le_refl _),Nat.sub_self];rfl
  have hrec:∀ X:Za,(H0++(bkC men K hp rp v::(dd++(g++(.cells [.int .i64 1,.int .i64 N0,.pl 1 [.str W0]]::X)))))[H0.length+(dd.length+g.length+1)]? = some (.cells [.int .i64 1,.int .i64 N0,.pl 1 [.str W0]]):=fun X=>by
   rw [Qzr (by omega),show H0.length+(dd.length+g.length+1) - H0.length=(dd.length+g.length)+1 by omega,List.getElem?_cons_succ,Qzr (by omega),show dd.length+g.length - dd.length=g.length by omega,Qzr (Nat.le_refl _),Nat.sub_self]
   rfl
  simp [-Xa,hl,g7,g10,g27,g223,g224,g225,hlt,hlt',hFk,hFg]
  refine cat.use ?_
  simp only [bkC] at hrec ⊢
  simp [-Xa,hl,g7,g10,g27,g223,g224,g225,hrec,hdiv,hmod,hw1,hw2]
  have e9:AV.arr 3 ((H0++(bkC men K hp rp v::dd)).length+jo) 0 ((E.take (k+1)).map crE).length=.arr 3 (H0.length+(dd.length+1)+jo) 0 (min (k+1) E.length):=by simp
  rw [hv',e9,List.map_take] at hA2
  rw [heq,Xk]
  simp [-Xa,hl,g7,g10,g27,g223,g224,g225,hx]
  exact ⟨⟨k+1,by simp,hlt,_,_,g',⟨rfl,rfl⟩,hA2⟩,by omega⟩
 ·obtain rfl:k=E.length:=by omega
  simp [-Xa,hl,g7,g10,g27,g223,g224,g225]
  rw [List.map_take] at hA
  exact ⟨E.length,rfl,Nat.le_refl _,v,o,g,⟨rfl,rfl⟩,hA⟩
end Ab
namespace Ab
open Go Go.RowKit Go.Proofs
def Za1 (E:List Ent):AV:=.pl 3 (E.map crE)
theorem Yh4 (men K:Nat) (E:List Ent) (reads:List Int):Zd (thB men K E reads)=.agg [.int .i64 men,.int .i64 K,Ys men,.pl 1 (Ya reads),Za1 E]:=by
 unfold Zd thB Ys Za1 Ya
 simp only [List.map_map]
 rfl
def Uac (l:List Int) (m:Nat):Nat:=((List.range m).filter fun x:Nat=>decide ((x:Int)∈l)).length
theorem Xdh (l:List Int) (m:Nat):Uac l (m+1)=Uac l m+if (m:Int)∈l then 1 else 0:=by
 unfold Uac
 rw [List.range_succ,List.filter_append,List.length_append]
 by_cases h:(m:Int)∈l<;>simp [h]
theorem Vfc (l:List Int) (m:Nat):Uac l m≤m:=by
 unfold Uac
 have:=List.length_filter_le (fun x:Nat=>decide ((x:Int)∈l)) (List.range m)
 simpa using this
theorem Xh5 {l:List Int} {men:Nat} (hs:l.Pairwise (·<·)) (hb:∀ x∈l,0≤x∧x<(men:Int)):Uac l men=l.length:=by
 unfold Uac
 refine Nat.le_antisymm ?_ ?_
 ·have:=Yz (((List.range men).filter fun x:Nat=>decide ((x:Int)∈l)).map fun x:Nat=>(x:Int)) l (Vai (List.nodup_range.filter _) fun a _ b _ e=>by omega) fun x hx=>by
   obtain ⟨y,hy,rfl⟩:=List.mem_map.1 hx
   rw [List.mem_filter] at hy
   exact of_decide_eq_true hy.2
  rwa [List.length_map] at this
 ·have:=Yz (l.map Int.toNat) ((List.range men).filter fun x:Nat=>decide ((x:Int)∈l)) (Vai (hs.imp fun {a b} h e=>by omega) fun x hx y hy e=>by have:=hb x hx;have:=hb y hy;omega) fun y hy=>by
   obtain ⟨x,hx,rfl⟩:=List.mem_map.1 hy
   have:=hb x hx
   rw [List.mem_filter]
   exact ⟨List.mem_range.2 (by omega),decide_eq_true (by rw [show ((x.toNat:Nat):Int)=x by omega];exact hx)⟩
  rwa [List.length_map] at this
theorem ThF.mem {r:Rl} {S:List (List Int)} {t:Tab} {men slots n:Nat} (h:ThF r S t men slots n) {i:Nat} {l:List Int} (hl:S[i]? = some l) {m:Nat} (hm:m<men):(m:Int)∈l↔∃ s,(s,m,(i:Int))∈Wd t men slots:=by
 have hmen:=h.slf.hmen
 constructor
 ·intro hx
  have hp:(m,(i:Int))∈shP S:=mem_shP.2 ⟨i,l,hl,rfl,(m:Int),hx,by omega⟩
  obtain ⟨s,hs⟩:=h.slf.inv.all _ _ hp
  have hss:s<slots:=Nat.lt_of_not_le fun hle=>by
   have:=h.slf.inv.hi s m hle
   rw [hs] at this;omega
  exact ⟨s,entE_mem.2 ⟨hss,hm,hs.symm,by show t s m≠-1;rw [hs];omega⟩⟩
 ·rintro ⟨s,hs⟩
  obtain ⟨_,_,q3,q4⟩:=entE_mem.1 hs
  have:=h.slf.inv.mem _ _ q4
  rw [← q3] at this
  obtain ⟨i',l',hl',he,x,hx,hxm⟩:=mem_shP.1 this
  obtain rfl:i=i':=by have:((i:Nat):Int)=i':=he;omega
  rw [hl] at hl'
  obtain rfl:=Option.some.inj hl'
  obtain ⟨_,_,_,_,_,hmem⟩:=h.slf.sh.mem h.slf.ok hl
  have h0:=(hmem x hx).2.1
  have hxm':x.toNat=m:=hxm
  have:x=(m:Int):=by omega
  exact this▸hx
theorem ThF.slots1 {r:Rl} {S:List (List Int)} {t:Tab} {men slots n:Nat} (h:ThF r S t men slots n):1≤slots:=by
 refine Nat.pos_of_ne_zero fun e=>h.ent ?_
 subst e
 rfl
theorem ThF.book {r:Rl} {S:List (List Int)} {t:Tab} {men slots n:Nat} (h:ThF r S t men slots n) {reads:List Int} (hr:reads.length=slots) (hb:∀ x∈reads,0≤x∧x≤1):ThOk men r.ntcs.length (Wd t men slots) reads:=by
 have hs6:=h.slf.s6
 have hm4:=h.slf.m4
 refine ⟨h.slf.m1,h.slf.m4,h.k1,h.k4,?_,by have:=h.slots1;omega,by omega,hb,fun e he=>?_⟩
 ·have:=Zeu (men:=men) h.slf.ok h.slf.sh h.slf.inv (by omega)
  have:=h.k4
  omega
 ·obtain ⟨q1,q2,q3,q4⟩:=entE_mem.1 he
  have:=h.slf.sh.pairs h.slf.ok (h.slf.inv.mem _ _ q4)
  rw [← q3] at this
  exact ⟨by omega,q2,this.2.1,this.2.2⟩
attribute [local irreducible] aws awp aw1 Og Om Oc Oa Ogd Ov Ot awd Zb awh Wb Ogh Ohd awl Ogl Ohl awv Ogv Ohv Xb Vb QFn Ub Xi QRo QBe Ui Uj ACode AYield
set_option maxRecDepth 20000 in
set_option maxHeartbeats 8000000 in
theorem Vik {r:Rl} {S:List (List Int)} {t:Tab} {men slots n:Nat} (hF:ThF r S t men slots n) {reads:List Int} (hr:reads.length=slots) (hb:∀ x∈reads,0≤x∧x≤1) {H0 dd:Za} {p:Nat} (hp:H0[p]? = some (.cells [.int .i64 men,.pl 2 (r.ntcs.map Zc)])) (Q:AV→Za→Prop) (hQ:∀ g,Q (.bool true) (H0++g)) {u:List AV} (hl:u.length=315) (g7:tg u 7=.ptr p 0) (g10:tg u 10=Ze S) (g27:tg u 27=.ptr H0.length 0) :
  ACode Tryz.prog none (Vd 1 (Vd 2 (Vd 2 (Vd 9 (Vd 8 (Tryz.f5.body.getD .skip)).2).2).2).2).2 (QFn Tryz.prog Tryz.f5 Q) { t:=u } (H0++(bkC men r.ntcs.length (Ys men) (.pl 1 (Ya reads)) (Za1 (Wd t men slots))::dd)):=by
 have hok:=hF.book hr hb
 have cV:=Zd4 _ hok.ok hok.ne
 have hverd:=fun m n (hm:m<men) (hn:n<r.ntcs.length)=>Vfy hok hok.ne hm hn
 obtain ⟨X,hX⟩:∃ X,Xd (thB men r.ntcs.length (Wd t men slots) reads)=X:=⟨_,rfl⟩
 rw [hX] at hverd cV
 rw [show (thB men r.ntcs.length (Wd t men slots) reads).houses.toNat=men from Int.toNat_natCast _,show (thB men r.ntcs.length (Wd t men slots) reads).notices.toNat=r.ntcs.length from Int.toNat_natCast _,Yh4] at cV
 obtain ⟨V,hV⟩:∃ V,Yav X men r.ntcs.length=V:=⟨_,rfl⟩
 have hVl:V.length=men:=by rw [← hV];simp [Yav]
 have hVm:∀ m (hm:m<V.length),V[m]=(List.range r.ntcs.length).map fun k=>Xq X m k:=fun m hm=>by subst hV;simp [Yav]
 rw [hV] at cV
 have hpl:=(Qzs.1 hp).1
 have hpX:∀ X:Za,(H0++X)[p]? = some (.cells [.int .i64 men,.pl 2 (r.ntcs.map Zc)]):=fun X=>by rw [Qzl hpl];exact hp
 have hSl:=hF.slf.sh.len
 have hmen:=hF.slf.hmen
 have hm4:=hF.slf.m4
 have hk4:=hF.k4
 have hS0:Ze S=.pl 1 (S.map fun x=>.pl 1 (Ya x)):=rfl
 rw [hS0] at g10
 refine Yi _ ?_
 dsimp only [Tryz.f5,Option.getD]
 simp only [bkC]
 simp [-Xa,Za0,Va0,hl,g7,g10,g27]
 refine cV.use ?_
 simp [-Xa,hl,g7,g10,g27,hpX,hVl,hSl]
 obtain ⟨RV,hRV⟩:∃ RV,V.map Xw=RV:=⟨_,rfl⟩
 have hRVl:RV.length=men:=by rw [← hRV];simp [hVl]
 have hRVm:∀ m (hm:m<RV.length),RV[m]=.pl 1 (((List.range r.ntcs.length).map fun k=>Xq X m k).map fun x=>AV.int .i64 x):=fun m hm=>by
  subst hRV
  rw [List.getElem_map,hVm]
  rfl
 obtain ⟨T,hT⟩:∃ T,H0++AObj.cells [.int .i64 men,.int .i64 r.ntcs.length,Ys men,.pl 1 (Ya reads),Za1 (Wd t men slots)]::dd=T:=⟨_,rfl⟩
 have hpT:T[p]? = some (.cells [.int .i64 men,.pl 2 (r.ntcs.map Zc)]):=by rw [← hT];exact hpX _
 rw [hRV,hT]
 refine Xc (fun env σ'=>∃ (u:List AV) (k:Nat),env={ t:=u }∧u.length=315∧tg u 7=.ptr p 0∧tg u 34=.pl 1 RV∧tg u 269=.pl 1 (S.map fun x=>.pl 1 (Ya x))∧tg u 270=.int .i64 r.ntcs.length∧tg u 271=.int .i64 k∧k≤r.ntcs.length∧σ'=T)
  (fun env _=>match tg env.t 271 with | .int _ i=>r.ntcs.length - i.toNat | _=>0) ⟨_,0,rfl,by simp [hl],by simp [hl,g7],by simp [hl],by simp [hl],by simp [hl],by simp [hl],by omega,rfl⟩ ?_
 clear hl g7 g10 g27 u
 rintro env σ1 ⟨u,k,rfl,hl,g7,g34,g269,g270,g271,hk,hs1⟩
 obtain rfl:=hs1.symm
 rcases Qzn k r.ntcs.length with hlt | hge
 ·have hlt':(k:Int)<(r.ntcs.length:Int):=by omega
  have hx:=w64 (n:=(k:Int)+1) (by omega) (by omega)
  have hkS:k<S.length:=by omega
  obtain ⟨l,hle⟩:∃ l,S[k]=l:=⟨_,rfl⟩
  have hl?:S[k]? = some l:=by rw [Qze hkS,hle]
  obtain ⟨nt,hnt,hno,hlen,hsrt,hmem⟩:=hF.slf.sh.mem hF.slf.ok hl?
  have hntl:nt.times.toNat=l.length:=by have:=hno.t1;omega
  have hlt3:l.length≤3:=by have:=hno.t3;omega
  have hall:=Xh5 (men:=men) hsrt fun x hx=>by have:=hmem x hx;omega
  have hnx:r.ntcs[k]=nt:=(Qzs.1 hnt).2
  have hkn:k<(r.ntcs.map Zc).length:=by simpa using hlt
  have hnA:(r.ntcs.map Zc)[k]'hkn=.agg [.int .i64 nt.times,.pl 1 (Ya nt.men)]:=by simp [hnx,Zc]
  simp [-Xa,hl,g7,g34,g269,g270,g271,hlt,hlt',hSl,hkS,hle,hpT]
  refine Xc (fun env σ'=>∃ (u:List AV) (m:Nat),env={ t:=u }∧u.length=315∧tg u 7=.ptr p 0∧tg u 34=.pl 1 RV∧tg u 35=.int .i64 k∧tg u 36=.pl 1 (Ya l)∧tg u 37=.int .i64 (Uac l m)∧tg u 269=.pl 1 (S.map fun x=>.pl 1 (Ya x))∧tg u 270=.int .i64 r.ntcs.length∧tg u 271=.int .i64 k∧tg u 277=.int .i64 men∧tg u 278=.int .i64 m∧m≤men∧σ'=T)
   (fun env _=>match tg env.t 278 with | .int _ i=>men - i.toNat | _=>0) ⟨_,0,rfl,by simp [hl],by simp [hl,g7],by simp [hl,g34],by simp [hl],by simp [hl],by simp [hl,Uac],by simp [hl,g269],by simp [hl,g270],by simp [hl,g271],by simp [hl],by simp [hl],by omega,rfl⟩ ?_
  clear hl g7 g34 g269 g270 g271 u
  rintro env σ2 ⟨u,m,rfl,hl,g7,g34,g35,g36,g37,g269,g270,g271,g277,g278,hm,hs2⟩
  obtain rfl:=hs2.symm
  rcases Qzn m men with hlt2 | hge2
  ·have hlt2':(m:Int)<(men:Int):=by omega
   have hx2:=w64 (n:=(m:Int)+1) (by omega) (by omega)
   have hcl:=Vfc l m
   have hx3:=w64 (n:=(Uac l m:Int)+1) (by omega) (by omega)
   have hmR:m<RV.length:=by omega
   have hrow:=hRVm m hmR
   have hcs:=Xdh l m
   have hme:=hF.mem hl? hlt2
   obtain ⟨hv1,hv2⟩:=hverd m k hlt2 hlt
   have cC:=Ua3 l m (by omega)
   simp [-Xa,hl,g7,g34,g35,g36,g37,g269,g270,g271,g277,g278,hlt2,hlt2',hmR,hrow]
   refine Ym mixed (by kernel_rfl) ?_
   simp [-Xa,hl,g7,g34,g35,g36,g37,g269,g270,g271,g277,g278,hlt2,hlt2',hmR,hrow,hRVl,hpT]
   refine cC.use ?_
   by_cases hin:(m:Int)∈l
   ·have e1:=hv1 (hme.1 hin)
    rw [if_pos hin] at hcs
    simp [-Xa,hl,g7,g34,g35,g36,g37,g269,g270,g271,g277,g278,hlt2,hlt2',hmR,hrow,hin,hx3,hx2,hlt,hlt',e1]
    exact ⟨⟨m+1,by rw [hcs];simp,by simp,hlt2⟩,by omega⟩
   ·have e2:=hv2 fun h=>hin (hme.2 h)
    rw [if_neg hin] at hcs
    simp [-Xa,hl,g7,g34,g35,g36,g37,g269,g270,g271,g277,g278,hlt2,hlt2',hmR,hrow,hin,hx2,hlt,hlt',e2]
    exact ⟨⟨m+1,by rw [hcs];simp,by simp,hlt2⟩,by omega⟩
  ·obtain rfl:m=men:=by omega
   have hnt1:(l.length:Int)=nt.times:=hlen
   simp [-Xa,hl,g7,g34,g35,g36,g37,g269,g270,g271,g277,g278,hpT,hall,hlt,hlt',hkn,hnA,hnt1]
   rw [hx]
   exact ⟨⟨k+1,by simp,hlt⟩,by omega⟩
 ·obtain rfl:k=r.ntcs.length:=by omega
  simp [-Xa,hl,g7,g34,g269,g270,g271]
  refine awake11_calls.use ?_
  try simp [-Xa,hl,g7,g34,g269,g270,g271]
  rw [← hT]
  exact hQ _
theorem Xce {b g T:Za} {k:Nat} {v:AV} {L:List AV} {o:Option Nat} (h:Acc b g k v L o) (hk:0<k) (hT:∀ (j:Nat) x,g[j]? = some (.cells x)→T[b.length+j]? = some (.cells x)) (hz:∀ x∈L,∀ z∈x.cells,Fz 0 T z z):Fz 0 T v (.pl k L):=by
 refine h.fzG hk (Nat.zero_le _) (fun j x _ e=>hT j x e) rfl fun i x y hx hy=>?_
 rw [hx] at hy
 obtain rfl:=Option.some.inj hy
 have hm:=Qzg hx
 refine ⟨(h.len _ hm).1,(h.len _ hm).2,fun j a b ha hb=>?_⟩
 rw [ha] at hb
 obtain rfl:=Option.some.inj hb
 exact hz _ hm _ (Qzg ha)
theorem Xh3 {u:List AV} {a b c d e f:AV} (h:27<u.length):tg (Uc u [(1,a),(7,b),(8,c),(10,d),(23,e),(27,f)]) 1=a∧tg (Uc u [(1,a),(7,b),(8,c),(10,d),(23,e),(27,f)]) 7=b∧tg (Uc u [(1,a),(7,b),(8,c),(10,d),(23,e),(27,f)]) 8=c∧tg (Uc u [(1,a),(7,b),(8,c),(10,d),(23,e),(27,f)]) 10=d∧tg (Uc u [(1,a),(7,b),(8,c),(10,d),(23,e),(27,f)]) 23=e∧tg (Uc u [(1,a),(7,b),(8,c),(10,d),(23,e),(27,f)]) 27=f:=by
 have q1:1<u.length:=by omega
 have q7:7<u.length:=by omega
 have q8:8<u.length:=by omega
 have q10:10<u.length:=by omega
 have q23:23<u.length:=by omega
 unfold Uc
 simp [tg,ts,q1,q7,q8,q10,q23,h]
theorem Uha {u:List AV} {b d e f:AV} (h:27<u.length):tg (Uc u [(7,b),(10,d),(23,e),(27,f)]) 7=b∧tg (Uc u [(7,b),(10,d),(23,e),(27,f)]) 10=d∧tg (Uc u [(7,b),(10,d),(23,e),(27,f)]) 23=e∧tg (Uc u [(7,b),(10,d),(23,e),(27,f)]) 27=f:=by
 have q7:7<u.length:=by omega
 have q10:10<u.length:=by omega
 have q23:23<u.length:=by omega
 unfold Uc
 simp [tg,ts,q7,q10,q23,h]
theorem Uc8 {u:List AV} {b d f:AV} (h:27<u.length):tg (Uc u [(7,b),(10,d),(27,f)]) 7=b∧tg (Uc u [(7,b),(10,d),(27,f)]) 10=d∧tg (Uc u [(7,b),(10,d),(27,f)]) 27=f:=by
 have q7:7<u.length:=by omega
 have q10:10<u.length:=by omega
 unfold Uc
 simp [tg,ts,q7,q10,h]
set_option maxRecDepth 20000 in
set_option maxHeartbeats 8000000 in
theorem Zil (l1 l2:List UInt8) (h1:l1.length≤9223372036854775807) (h2:l2.length≤9223372036854775807) (dm:Nat) (hdm:dm<65536):APure Tryz.prog 5 [.pl 1 (Zi l1),.pl 1 (Zi l2),.int .u16 dm] (.bool true):=by
 refine APure.of fun σ=>Udq l1 l2 h1 dm σ _ (fun g=>⟨g,rfl,.bool _⟩) fun env s h=>?_
 obtain ⟨B,r,S,t,men,slots,n,hF,hA,h80⟩:=h
 refine Zgq l2 dm hdm σ _ hF hA h80 fun env s hC=>?_
 clear hA h80
 obtain ⟨u,g,rfl,hl,g1,g7,g8,g10,g23,rfl⟩:=hC
 have hm4:=hF.slf.m4
 have hs6:=hF.slf.s6
 have hEok:=hF.slf.ents
 obtain ⟨H0,hH0⟩:∃ H0,(σ++[B,AObj.cells [.int .i64 men,.pl 2 (r.ntcs.map Zc)]])++g=H0:=⟨_,rfl⟩
 have hp:H0[σ.length+1]? = some (.cells [.int .i64 men,.pl 2 (r.ntcs.map Zc)]):=by rw [← hH0];simp
 have hHs:∀ X:Za,∃ g',H0++X=σ++g':=fun X=>⟨[B,AObj.cells [.int .i64 men,.pl 2 (r.ntcs.map Zc)]]++g++X,by rw [← hH0];simp⟩
 rw [hH0]
 refine Uh2 (K:=r.ntcs.length) hp (by simp) hm4 _ hl g1 g7 g8 g10 g23 fun env s hD=>?_
 clear hl g1 g7 g8 g10 g23 u
 obtain ⟨⟨u,m,v,L,o,g2,rfl,hl,g1,g7,g8,g10,g23,g27,g195,g196,hm,rfl,hA,hL,hrows⟩,h196⟩:=hD
 obtain rfl:m=men:=by
  have h':tg u 196=.int .i64 men:=h196
  rw [g196] at h'
  injection h' with _ e
  omega
 have hbk:bkC m r.ntcs.length v .nils .nils=.cells [.int .i64 m,.int .i64 r.ntcs.length,v,.nils,.nils]:=rfl
 rw [hbk]
 have hv:=Yh5 (T:=barP (fun x=>decide (H0.length+1≤x)) (H0++(AObj.cells [.int .i64 m,.int .i64 r.ntcs.length,v,.nils,.nils]::g2))) hA hL (fun k hk=>by
  obtain ⟨q,q1,q2,_⟩:=hrows k hk
  exact ⟨q,by rw [q1];simp,q2⟩) fun j x hj=>by
  refine Van ?_ (by simp)
  rw [Qzr (by simp;omega),show (H0++[zRl]).length+j - H0.length=j+1 by simp;omega]
  simpa using hj
 refine ACode.view (u':=Uc u [(1,.pl 1 (Zi l2)),(7,.ptr (σ.length+1) 0),(8,Ze (Uf t m slots)),(10,Ze S),(23,Yk (Yj Xh (Wd t m slots))),(27,.ptr H0.length 0)]) _ (View.rows (C':=[.int .i64 m,.int .i64 r.ntcs.length,Ys m,.nils,.nils]) rfl (fun i x y hx hy=>by
  match i,hx,hy with
  | 0,hx,hy=>simp at hx hy;subst hx;subst hy;exact .inl rfl
  | 1,hx,hy=>simp at hx hy;subst hx;subst hy;exact .inl rfl
  | 2,hx,hy=>simp at hx hy;subst hx;subst hy;exact .inr hv
  | 3,hx,hy=>simp at hx hy;subst hx;subst hy;exact .inl rfl
  | 4,hx,hy=>simp at hx hy;subst hx;subst hy;exact .inl rfl
  | i+5,hx,hy=>simp at hx)) ?_ (Yt _ _) (Xaj (by
   simp only [List.mem_cons,List.not_mem_nil,or_false]
   rintro p (rfl | rfl | rfl | rfl | rfl | rfl)<;>dsimp only<;>first | (rw [g1];exact .inl rfl) | (rw [g7];exact .inl rfl) | (rw [g8];exact .inl rfl) | (rw [g10];exact .inl rfl) | (rw [g23];exact .inl rfl) | (rw [g27];exact .inl rfl)))
 have hl3:=(Yt u [(1,.pl 1 (Zi l2)),(7,.ptr (σ.length+1) 0),(8,Ze (Uf t m slots)),(10,Ze S),(23,Yk (Yj Xh (Wd t m slots))),(27,.ptr H0.length 0)]).trans hl
 obtain ⟨k1,k7,k8,k10,k23,k27⟩:=Xh3 (u:=u) (a:=.pl 1 (Zi l2)) (b:=.ptr (σ.length+1) 0) (c:=Ze (Uf t m slots)) (d:=Ze S) (e:=Yk (Yj Xh (Wd t m slots))) (f:=.ptr H0.length 0) (by omega)
 refine Zg7 (dd:=g2.map fun _=>AObj.dead) (p:=σ.length+1) (men:=m) (K:=r.ntcs.length) (slots:=slots) (hp:=Ys m) (X10:=Ze S) (FF:=Yk (Yj Xh (Wd t m slots))) (P8:=(Uf t m slots).map fun x=>.pl 1 (Ya x)) h2 (by simp [Uf]) hs6 _ hl3 k1 k7 k8 k10 k23 k27 fun env s hE=>?_
 clear hl g1 g7 g8 g10 g23 g27 g195 g196 h196 hv hrows hA hL hl3 k1 k7 k8 k10 k23 k27 hbk u v
 obtain ⟨dd,hdd⟩:∃ dd,(g2.map fun _=>AObj.dead)=dd:=⟨_,rfl⟩
 rw [hdd] at hE
 obtain ⟨⟨u,s',v,l,a,c,o,g3,rfl,hl,g7,g10,g23,g27,g29,g212,g213,hs,rfl,hA,hll,hlb,ha⟩,h213⟩:=hE
 obtain rfl:s'=slots:=by
  have h':tg u 213=.int .i64 slots:=h213
  rw [g213] at h'
  injection h' with _ e
  omega
 have hbk:bkC m r.ntcs.length (Ys m) v .nils=.cells [.int .i64 m,.int .i64 r.ntcs.length,Ys m,v,.nils]:=rfl
 rw [hbk]
 have hv:=Xce (T:=barP (fun x=>decide (H0.length+1≤x)) (H0++(AObj.cells [.int .i64 m,.int .i64 r.ntcs.length,Ys m,v,.nils]::(dd++(Yd l2 a c::g3))))) hA (by omega) (fun j x hj=>by
  refine Van ?_ (by simp;omega)
  rw [Qzr (by simp;omega),show (H0++zRl::(dd++[zRl])).length+j - H0.length=(dd.length+(j+1))+1 by simp;omega,List.getElem?_cons_succ,Qzr (by omega),show dd.length+(j+1) - dd.length=j+1 by omega,List.getElem?_cons_succ]
  exact hj) (fun x hx z hz=>by
  unfold Ya at hx
  obtain ⟨w,_,rfl⟩:=List.mem_map.1 hx
  simp [AV.cells] at hz
  subst hz
  exact .int _ _)
 refine ACode.view (u':=Uc u [(7,.ptr (σ.length+1) 0),(10,Ze S),(23,Yk (Yj Xh (Wd t m s'))),(27,.ptr H0.length 0)]) _ (View.rows (C':=[.int .i64 m,.int .i64 r.ntcs.length,Ys m,.pl 1 (Ya l),.nils]) rfl (fun i x y hx hy=>by
  match i,hx,hy with
  | 0,hx,hy=>simp at hx hy;subst hx;subst hy;exact .inl rfl
  | 1,hx,hy=>simp at hx hy;subst hx;subst hy;exact .inl rfl
  | 2,hx,hy=>simp at hx hy;subst hx;subst hy;exact .inl rfl
  | 3,hx,hy=>simp at hx hy;subst hx;subst hy;exact .inr hv
  | 4,hx,hy=>simp at hx hy;subst hx;subst hy;exact .inl rfl
  | i+5,hx,hy=>simp at hx)) ?_ (Yt _ _) (Xaj (by
   simp only [List.mem_cons,List.not_mem_nil,or_false]
   rintro p (rfl | rfl | rfl | rfl)<;>dsimp only<;>first | (rw [g7];exact .inl rfl) | (rw [g10];exact .inl rfl) | (rw [g23];exact .inl rfl) | (rw [g27];exact .inl rfl)))
 have hl3:=(Yt u [(7,.ptr (σ.length+1) 0),(10,Ze S),(23,Yk (Yj Xh (Wd t m s'))),(27,.ptr H0.length 0)]).trans hl
 obtain ⟨k7,k10,k23,k27⟩:=Uha (u:=u) (b:=.ptr (σ.length+1) 0) (d:=Ze S) (e:=Yk (Yj Xh (Wd t m s'))) (f:=.ptr H0.length 0) (by omega)
 refine Vhh (dd:=(dd++(Yd l2 a c::g3)).map fun _=>AObj.dead) (p:=σ.length+1) (men:=m) (K:=r.ntcs.length) (hp:=Ys m) (rp:=.pl 1 (Ya l)) (X10:=Ze S) hEok _ hl3 k7 k10 k23 k27 fun env s hG=>?_
 clear hl g7 g10 g23 g27 g29 g212 g213 h213 hv hA hl3 k7 k10 k23 k27 hbk u v
 obtain ⟨d2,hd2⟩:∃ d2,((dd++(Yd l2 a c::g3)).map fun _=>AObj.dead)=d2:=⟨_,rfl⟩
 rw [hd2] at hG
 obtain ⟨⟨u,k,v,o,g4,rfl,hl,g7,g10,g27,g223,g224,g225,hk,rfl,hA⟩,h225⟩:=hG
 obtain rfl:k=(Wd t m s').length:=by
  have h':tg u 225=.int .i64 (Wd t m s').length:=h225
  rw [g225] at h'
  injection h' with _ e
  omega
 rw [List.take_length] at hA
 have hbk:bkC m r.ntcs.length (Ys m) (.pl 1 (Ya l)) v=.cells [.int .i64 m,.int .i64 r.ntcs.length,Ys m,.pl 1 (Ya l),v]:=rfl
 rw [hbk]
 have hv:=Xce (T:=barP (fun x=>decide (H0.length+1≤x)) (H0++(AObj.cells [.int .i64 m,.int .i64 r.ntcs.length,Ys m,.pl 1 (Ya l),v]::(d2++g4)))) hA (by omega) (fun j x hj=>by
  refine Van ?_ (by simp;omega)
  rw [Qzr (by simp;omega),show (H0++zRl::d2).length+j - H0.length=(d2.length+j)+1 by simp;omega,List.getElem?_cons_succ,Qzr (by omega),show d2.length+j - d2.length=j by omega]
  exact hj) (fun x hx z hz=>by
  obtain ⟨w,_,rfl⟩:=List.mem_map.1 hx
  simp [AV.cells,crE] at hz
  rcases hz with rfl | rfl | rfl<;>exact .int _ _)
 refine ACode.view (u':=Uc u [(7,.ptr (σ.length+1) 0),(10,Ze S),(27,.ptr H0.length 0)]) _ (View.rows (C':=[.int .i64 m,.int .i64 r.ntcs.length,Ys m,.pl 1 (Ya l),Za1 (Wd t m s')]) rfl (fun i x y hx hy=>by
  match i,hx,hy with
  | 0,hx,hy=>simp at hx hy;subst hx;subst hy;exact .inl rfl
  | 1,hx,hy=>simp at hx hy;subst hx;subst hy;exact .inl rfl
  | 2,hx,hy=>simp at hx hy;subst hx;subst hy;exact .inl rfl
  | 3,hx,hy=>simp at hx hy;subst hx;subst hy;exact .inl rfl
  | 4,hx,hy=>simp at hx hy;subst hx;subst hy;exact .inr hv
  | i+5,hx,hy=>simp at hx)) ?_ (Yt _ _) (Xaj (by
   simp only [List.mem_cons,List.not_mem_nil,or_false]
   rintro p (rfl | rfl | rfl)<;>dsimp only<;>first | (rw [g7];exact .inl rfl) | (rw [g10];exact .inl rfl) | (rw [g27];exact .inl rfl)))
 have hl3:=(Yt u [(7,.ptr (σ.length+1) 0),(10,Ze S),(27,.ptr H0.length 0)]).trans hl
 obtain ⟨k7,k10,k27⟩:=Uc8 (u:=u) (b:=.ptr (σ.length+1) 0) (d:=Ze S) (f:=.ptr H0.length 0) (by omega)
 exact Vik hF hll hlb hp _ (fun g=>by obtain ⟨x,hx⟩:=hHs g;exact ⟨x,hx,.bool _⟩) hl3 k7 k10 k27
end Ab

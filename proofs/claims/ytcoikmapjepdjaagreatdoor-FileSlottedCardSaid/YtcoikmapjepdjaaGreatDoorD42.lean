/-
  Texts packed for a claim.
-/
import Derived.Test.YtcoikmapjepdjaaGreatDoorD00
import Derived.Test.YtcoikmapjepdjaaGreatDoorD32
import Derived.Test.YtcoikmapjepdjaaGreatDoorD40
import Derived.Test.YtcoikmapjepdjaaGreatDoorD41
set_option linter.all false
namespace Ab
open Go Go.RowKit Go.Proofs
def Wo (p:Ent × AV):AV:=.agg [.int .i64 1,.int .i64 (Wh p.1),p.2]
structure RcAcc (b g:Za) (vs:Nat→AV) (F:Nat→List (Ent × AV)) (os:Nat→Option Nat):Prop where
 acc:∀ n,n<3→Acc b g 3 (vs n) ((F n).map Wo) (os n)
 dis:∀ x y,x<3→y<3→x≠y→∀ j,os x=some j→os y≠some j
 words:∀ p∈F 2,∃ q,p.2=.arr 1 (b.length+q) 0 1∧(∀ n,n<3→some q≠os n)∧g[q]? = some (.cells [.str Xy])
 lit:∀ n,n<2→∀ p∈F n,p.2=.pl 1 [.str (Wc p.1)]
def Zk {α:Type} (f:Nat→α) (n:Nat) (x:α):Nat→α:=fun k=>if k=n then x else f k
theorem Yac {α:Type} (f:Nat→α) (n:Nat) (x:α):Zk f n x n=x:=by simp [Zk]
theorem Zu {α:Type} (f:Nat→α) {n k:Nat} (x:α) (h:k≠n):Zk f n x k=f k:=by simp [Zk,h]
theorem RcAcc.base {b b' g:Za} {vs:Nat→AV} {F:Nat→List (Ent × AV)} {os:Nat→Option Nat} (h:RcAcc b g vs F os) (hb:b'.length=b.length):RcAcc b' g vs F os :=
 ⟨fun n hn=>(h.acc n hn).base hb.symm,h.dis,fun p hp=>by rw [hb];exact h.words p hp,h.lit⟩
theorem RcAcc.lt {b g:Za} {vs:Nat→AV} {F:Nat→List (Ent × AV)} {os:Nat→Option Nat} (h:RcAcc b g vs F os) {n:Nat} (hn:n<3) {j:Nat} (hj:os n=some j):j<g.length:=by
 have:=(h.acc n hn).val
 rw [hj] at this
 exact (Qzs.1 this.2).1
theorem RcAcc.grown {b g g':Za} {vs:Nat→AV} {F:Nat→List (Ent × AV)} {os:Nat→Option Nat} (h:RcAcc b g vs F os) {n:Nat} (hn:n<3) {p:Ent × AV} {v':AV} {jo:Nat} (hA:Acc b g' 3 v' ((F n++[p]).map Wo) (some jo))
  (hkeep:∀ j,some j≠os n→j<g.length→g'[j]? = g[j]?) (hjo:some jo=os n∨g.length≤jo) (hp:n<2→p.2=.pl 1 [.str (Wc p.1)]) (hw:n=2→∃ q,p.2=.arr 1 (b.length+q) 0 1∧q≠jo∧g.length≤q∧g'[q]? = some (.cells [.str Xy])) :
  RcAcc b g' (Zk vs n v') (Zk F n (F n++[p])) (Zk os n (some jo)):=by
 refine ⟨fun k hk=>?_,fun x y hx hy hne j e1 e2=>?_,fun z hz=>?_,fun k hk z hz=>?_⟩
 ·by_cases hkn:k=n
  ·subst hkn
   rw [Yac,Yac,Yac]
   exact hA
  ·rw [Zu _ _ hkn,Zu _ _ hkn,Zu _ _ hkn]
   exact (h.acc k hk).kept hkeep fun j e1 e2=>h.dis n k hn hk (fun e=>hkn e.symm) j e1 e2
 ·by_cases hxn:x=n
  ·subst hxn
   rw [Yac] at e1
   rw [Zu _ _ (fun e=>hne e.symm)] at e2
   obtain rfl:=Option.some.inj e1
   rcases hjo with h1 | h1
   ·exact h.dis x y hx hy hne jo h1.symm e2
   ·have:=h.lt hy e2;omega
  ·rw [Zu _ _ hxn] at e1
   by_cases hyn:y=n
   ·subst hyn
    rw [Yac] at e2
    obtain rfl:=Option.some.inj e2
    rcases hjo with h1 | h1
    ·exact h.dis x y hx hy hne jo e1 h1.symm
    ·have:=h.lt hx e1;omega
   ·rw [Zu _ _ hyn] at e2
    exact h.dis x y hx hy hne j e1 e2
 ·have old:z∈F 2→∃ q,z.2=.arr 1 (b.length+q) 0 1∧(∀ k,k<3→some q≠Zk os n (some jo) k)∧g'[q]? = some (.cells [.str Xy]):=fun hz=>by
   obtain ⟨q,h1,h2,h3⟩:=h.words z hz
   have hql:=(Qzs.1 h3).1
   refine ⟨q,h1,fun k hk e=>?_,by rw [hkeep q (h2 n hn) hql];exact h3⟩
   by_cases hkn:k=n
   ·subst hkn
    rw [Yac] at e
    rcases hjo with h4 | h4
    ·exact h2 k hk (e.trans h4)
    ·have:=Option.some.inj e;omega
   ·rw [Zu _ _ hkn] at e
    exact h2 k hk e
  by_cases h2n:2=n
  ·subst h2n
   rw [Yac] at hz
   rcases List.mem_append.1 hz with hz | hz
   ·exact old hz
   ·rw [List.mem_singleton.1 hz]
    obtain ⟨q,h1,h2,h3,h4⟩:=hw rfl
    refine ⟨q,h1,fun k hk e=>?_,h4⟩
    by_cases hkn:k=2
    ·subst hkn
     rw [Yac] at e
     exact h2 (Option.some.inj e)
    ·rw [Zu _ _ hkn] at e
     have:=h.lt hk e.symm;omega
  ·rw [Zu _ _ h2n] at hz
   exact old hz
 ·by_cases hkn:k=n
  ·subst hkn
   rw [Yac] at hz
   rcases List.mem_append.1 hz with hz | hz
   ·exact h.lit k hk z hz
   ·rw [List.mem_singleton.1 hz]
    exact hp hk
  ·rw [Zu _ _ hkn] at hz
   exact h.lit k hk z hz
theorem RcAcc.push1 {b g:Za} {vs:Nat→AV} {F:Nat→List (Ent × AV)} {os:Nat→Option Nat} (h:RcAcc b g vs F os) {n:Nat} (hn:n<2) (e:Ent) (hl:(F n).length≤2^20) :
  ∃ v' g' jo,Xa Tryz.prog #[57,57] (vs n) (.pl 3 [.agg [.int .i64 1,.int .i64 (Wh e),.pl 1 [.str (Wc e)]]]) (b++g)=some (v',b++g')∧(∃ len,v'=.arr 3 (b.length+jo) 0 len)∧RcAcc b g' (Zk vs n v') (Zk F n (F n++[(e,AV.pl 1 [.str (Wc e)])])) (Zk os n (some jo)):=by
 obtain ⟨v',g',o',he,hA',hlen,hkeep,ho⟩:=(h.acc n (by omega)).app (P:=Tryz.prog) (t:=57) (e:=88) (ag:=true) (ys:=[Wo (e,AV.pl 1 [.str (Wc e)])]) (y:=.pl 3 [Wo (e,AV.pl 1 [.str (Wc e)])]) (by simp) (by simp) (by simp) (by omega) (fun y hy=>by
  rw [List.mem_singleton.1 hy]
  exact ⟨rfl,by simp [AV.cells,AV.one,Wo]⟩) (by simp [AV.cells,Wo]) (by simp;omega)
 have e1:(F n).map Wo++[Wo (e,AV.pl 1 [.str (Wc e)])]=(F n++[(e,AV.pl 1 [.str (Wc e)])]).map Wo:=by simp
 rw [e1] at hA'
 obtain ⟨jo,rfl⟩:∃ jo,o'=some jo:=by
  cases o' with
  | none=>exact absurd hA'.val.2 (by simp)
  | some jo=>exact ⟨jo,rfl⟩
 refine ⟨v',g',jo,he,⟨_,hA'.val.1⟩,h.grown (by omega) hA' hkeep ?_ (fun _=>rfl) fun e=>by omega⟩
 rcases ho with h1 | h1
 ·exact .inl h1
 ·exact .inr (by have:=Option.some.inj h1;omega)
theorem RcAcc.push2 {b g:Za} {vs:Nat→AV} {F:Nat→List (Ent × AV)} {os:Nat→Option Nat} (h:RcAcc b g vs F os) (e:Ent) (hl:(F 2).length≤2^20) :
  ∃ v' g' jo,Xa Tryz.prog #[57,57] (vs 2) (.arr 3 (b.length+(g.length+1)) 0 1) (b++(g++[.cells [.str Xy],.cells [.int .i64 1,.int .i64 (Wh e),.arr 1 (b.length+g.length) 0 1]]))=some (v',b++g')∧RcAcc b g' (Zk vs 2 v') (Zk F 2 (F 2++[(e,AV.arr 1 (b.length+g.length) 0 1)])) (Zk os 2 (some jo)):=by
 obtain ⟨v',g',o',he,hA',hlen,hkeep,ho⟩:=((h.acc 2 (by omega)).more [.cells [.str Xy]]).push (P:=Tryz.prog) (t:=57) (e:=88) (ag:=true) (x:=Wo (e,AV.arr 1 (b.length+g.length) 0 1)) (by simp) (by simp) (by simp) (by omega) ⟨rfl,by simp [AV.cells,AV.one,Wo]⟩ (by simp;omega)
 have e1:(F 2).map Wo++[Wo (e,AV.arr 1 (b.length+g.length) 0 1)]=(F 2++[(e,AV.arr 1 (b.length+g.length) 0 1)]).map Wo:=by simp
 rw [e1] at hA'
 obtain ⟨jo,rfl⟩:∃ jo,o'=some jo:=by
  cases o' with
  | none=>exact absurd hA'.val.2 (by simp)
  | some jo=>exact ⟨jo,rfl⟩
 have hol:∀ j,os 2=some j→j<g.length:=fun j e=>h.lt (by omega) e
 refine ⟨v',g',jo,by simpa [-Xa,Wo,AV.cells] using he,h.grown (by omega) hA' (fun j h1 h2=>?_) ?_ (fun h=>by omega) fun _=>⟨g.length,rfl,?_,Nat.le_refl _,?_⟩⟩
 ·rw [hkeep j h1 (by simp;omega),Qzl h2]
 ·rcases ho with h1 | ⟨m,h2,h1⟩
  ·exact .inl h1
  ·exact .inr (by simp at h1 h2;omega)
 ·rcases ho with h1 | ⟨m,h2,h1⟩
  ·have:=hol _ h1.symm;omega
  ·simp at h1 h2;omega
 ·rw [hkeep _ (fun e=>by have:=hol _ e.symm;omega) (by simp),Qzr (Nat.le_refl _),Nat.sub_self]
  rfl
end Ab
namespace Ab
open Go Go.RowKit Go.Proofs
structure SlF (r:Rl) (S:List (List Int)) (t:Tab) (men slots:Nat):Prop where
 ok:r.Ok
 sh:ShOk r S
 inv:SlInv slots (shP S) t
 hslots:(slotsOf r S).toNat=slots
 s6:slots≤6
 hmen:r.men=men
 m1:1≤men
 m4:men≤4
def Yas (w:UInt8) (m:Nat):Int:=IntKind.u8.wrap (((((w.toNat:Nat):Int).fdiv (2^min m IntKind.u8.bits) % 2^IntKind.u8.bits).toNat &&& ((1:Int) % 2^IntKind.u8.bits).toNat:Nat):Int)
theorem Wgb (w:UInt8) (m:Nat):Yas w m=0∨Yas w m=1:=by
 unfold Yas
 obtain ⟨x,hx⟩:∃ x,(((w.toNat:Nat):Int).fdiv (2^min m IntKind.u8.bits) % 2^IntKind.u8.bits).toNat=x:=⟨_,rfl⟩
 rw [hx,show ((1:Int) % 2^IntKind.u8.bits).toNat=1 from by decide]
 have:=Nat.and_le_right (n:=x) (m:=1)
 obtain ⟨y,hy⟩:∃ y,x &&& 1=y:=⟨_,rfl⟩
 rw [hy] at this ⊢
 have:y=0∨y=1:=by omega
 rcases this with rfl | rfl
 ·left;decide
 ·right;decide
def qW (w:UInt8) (e:Ent):Bool:=decide (Yas w e.2.1=1)
def SlA (q:Ent→Bool) (who:Int) (B:AObj) (r:Rl) (S:List (List Int)) (t:Tab) (men slots:Nat) (σ:Za) (env:Env) (σ':Za):Prop:=∃ (u:List AV) (s:Nat) (vs:Nat→AV) (F:Nat→List (Ent × AV)) (os:Nat→Option Nat) (g:Za),env={ t:=u }∧u.length=257∧tg u 1=.int .u8 who∧tg u 6=.ptr (σ.length+1) 0∧tg u 7=Yf S∧tg u 8=Yf (Ue t men slots)∧tg u 10=.ptr (σ.length+2) 0∧tg u 11=vs 2∧tg u 53=.pl 1 ((Ue t men slots).map fun x=>.pl 1 (Ya x))∧tg u 54=.int .i64 slots∧tg u 55=.int .i64 s∧s≤slots ∧
 σ'=(σ++[B,.cells [.int .i64 men,.pl 2 (r.ntcs.map Xc)],.cells [vs 0,vs 1]])++g∧RcAcc (σ++[zRl,zRl,zRl]) g vs F os∧(F 0).map Prod.fst=(Wg t men s).filter (fun e=>!q e)∧(F 1).map Prod.fst=(Wg t men s).filter q∧(F 2).map Prod.fst=Wg t men s
def SlB (q:Ent→Bool) (who:Int) (B:AObj) (r:Rl) (S:List (List Int)) (t:Tab) (men slots s:Nat) (σ:Za) (env:Env) (σ':Za):Prop:=∃ (u:List AV) (m:Nat) (vs:Nat→AV) (F:Nat→List (Ent × AV)) (os:Nat→Option Nat) (g:Za),env={ t:=u }∧u.length=257∧tg u 1=.int .u8 who∧tg u 6=.ptr (σ.length+1) 0∧tg u 7=Yf S∧tg u 8=Yf (Ue t men slots)∧tg u 10=.ptr (σ.length+2) 0∧tg u 11=vs 2∧tg u 12=.int .i64 s∧tg u 53=.pl 1 ((Ue t men slots).map fun x=>.pl 1 (Ya x))∧tg u 54=.int .i64 slots∧tg u 55=.int .i64 s∧tg u 65=.pl 1 (Ya (Zf t men s))∧tg u 66=.int .i64 men∧tg u 67=.int .i64 m∧m≤men ∧
 σ'=(σ++[B,.cells [.int .i64 men,.pl 2 (r.ntcs.map Xc)],.cells [vs 0,vs 1]])++g∧RcAcc (σ++[zRl,zRl,zRl]) g vs F os∧(F 0).map Prod.fst=(Wg t men s++Ui t s m).filter (fun e=>!q e)∧(F 1).map Prod.fst=(Wg t men s++Ui t s m).filter q∧(F 2).map Prod.fst=Wg t men s++Ui t s m
attribute [local irreducible] aws awp aw1 Og Om Oc Oa Ogd Ov Ot awd Zb awh Xb Ogh Ohd awl Ogl Ohl awv Ogv Ohv Wb Vb QFn Ub Wp QRo QBe Ul Vn ACode AYield
set_option maxHeartbeats 8000000 in
theorem Xd3 (l1:List UInt8) (h1:l1.length≤9223372036854775807) (w:UInt8) (σ:Za) (Q:AV→Za→Prop)
  (h2:∀ (env:Env) (s:Za),(∃ (B:AObj) (r:Rl) (S:List (List Int)) (t:Tab) (men slots:Nat),SlF r S t men slots∧SlA (qW w) w.toNat B r S t men slots σ env s∧tg env.t 55=.int .i64 slots)→ACode Tryz.prog none (Xl 9 (Tryz.f7.body.getD .skip)).2 (QFn Tryz.prog Tryz.f7 Q) env s) :
  ACalls Tryz.prog 7 [.pl 1 (Wn l1),.int .u8 w.toNat] σ Q:=by
 refine Vbu 9 (fun env s=>∃ (B:AObj) (r:Rl) (S:List (List Int)) (t:Tab) (men slots:Nat),SlF r S t men slots∧SlA (qW w) w.toNat B r S t men slots σ env s∧tg env.t 55=.int .i64 slots) Tryz.func7 rfl (Va Tryz.func7 (by decide) rfl) ?_ ?_
 ·simp [-Xa,Tryz.ntmps7]
  refine StA.of ((Ue5 σ _ rfl).mono ?_)
  rintro v σ' ⟨rfl,rfl⟩
  refine StA.of ((Yg8 (σ++[Xd l1 0 0]) σ.length l1 0 0 (by simp) (by omega) h1 4 5 (by omega) (by omega) (by omega)).mono ?_)
  rintro v σ' ⟨r,a1,c1,rfl,ok,hm4,hn5,ha1,rfl⟩
  have hm1:=ok.m1
  have hset:∀ a c,(σ++[Xd l1 0 0]).set σ.length (Xd l1 a c)=σ++[Xd l1 a c]:=fun a c=>by simp
  rw [hset]
  have hr0:Uh r=.agg [.int .i64 r.men,.pl 2 (r.ntcs.map Xc)]:=rfl
  rw [hr0]
  simp [-Xa]
  refine StA.of ((by rw [← hr0];exact Xfh r ok (σ++[Xd l1 a1 c1,.cells [.int .i64 r.men,.pl 2 (r.ntcs.map Xc)]]) σ.length l1 a1 c1 (by simp) ha1 h1:ACalls Tryz.prog 17 [.ptr σ.length 0,.agg [.int .i64 r.men,.pl 2 (r.ntcs.map Xc)]] _ _).mono ?_)
  rintro v σ' ⟨S,a2,c2,rfl,hsh,ha2,rfl⟩
  have hset2:∀ a c,(σ++[Xd l1 a1 c1,.cells [.int .i64 r.men,.pl 2 (r.ntcs.map Xc)]]).set σ.length (Xd l1 a c)=σ++[Xd l1 a c,.cells [.int .i64 r.men,.pl 2 (r.ntcs.map Xc)]]:=fun a c=>by simp
  rw [hset2]
  obtain ⟨B,hB⟩:∃ B,Xd l1 a2 c2=B:=⟨_,rfl⟩
  rw [hB]
  try simp [-Xa]
  refine StA.of ((by rw [← hr0];exact Vgk r S ok hsh _:ACalls Tryz.prog 58 [.agg [.int .i64 r.men,.pl 2 (r.ntcs.map Xc)],Yf S] _ _).mono ?_)
  rintro v σ' ⟨t,hT,rfl,rfl⟩
  obtain ⟨slots,hsn⟩:∃ k:Nat,(slotsOf r S).toNat=k:=⟨_,rfl⟩
  obtain ⟨men,hmen⟩:∃ k:Nat,r.men.toNat=k:=⟨_,rfl⟩
  have hmen':r.men=men:=by omega
  have hsl:=Xbl ok hsh
  rw [hsn] at hT ⊢
  rw [hmen]
  have hF:SlF r S t men slots:=⟨ok,hsh,hT,hsn,by omega,hmen',by omega,by omega⟩
  have hpl:(Ue t men slots).length=slots:=by simp [Ue]
  have hp0:Yf (Ue t men slots)=.pl 1 ((Ue t men slots).map fun x=>.pl 1 (Ya x)):=rfl
  have hn8:¬ (8:Int)<(slots:Int):=by omega
  rw [hp0,hmen']
  simp [-Xa,hpl,hn8]
  refine Vd (SlA (qW w) w.toNat B r S t men slots σ) (fun env _=>match tg env.t 55 with | .int _ i=>slots - i.toNat | _=>0) ⟨_,0,fun _=>.nils,fun _=>[],fun _=>none,[],rfl,by simp,by simp,by simp,by simp,by simp [hp0],by simp,by simp,by simp,by simp,by simp,by omega,by simp,⟨fun n hn=>Acc.nil _ _ _,by simp,by simp,by simp⟩,by simp [Wg],by simp [Wg],by simp [Wg]⟩ ?_
  have hcell:∀ s m,t s m=-1∨(0≤t s m∧t s m<r.ntcs.length):=fun s m=>by
   rcases Classical.em (t s m=-1) with e | e
   ·exact .inl e
   ·have:=hsh.pairs ok (hT.mem s m e);exact .inr ⟨this.2.1,this.2.2⟩
  have hm4':men≤4:=by omega
  have hs6':slots≤6:=by omega
  have hn6:=ok.few
  clear hset hset2 ha1 ha2 hB c1 c2 a1 a2 hr0
  rintro env _ ⟨u,s,vs,F,os,g,rfl,hl,g1,g6,g7,g8,g10,g11,g53,g54,g55,hs,rfl,hA,hF0,hF1,hF2⟩
  rcases Qzn s slots with hlt | hge
  ·have hlt':(s:Int)<(slots:Int):=by omega
   have hx:=w64 (n:=(s:Int)+1) (by omega) (by omega)
   have hsl2:s<(Ue t men slots).length:=by rw [hpl];exact hlt
   have hrow:(Ue t men slots)[s]'hsl2=Zf t men s:=by simp [Ue,Zf]
   have hrl:(Ya (Zf t men s)).length=men:=by simp [Ya,Uy]
   simp [-Xa,hl,g1,g6,g7,g8,g10,g11,g53,g54,g55,hlt,hlt',hpl,hsl2,hrow,hrl]
   refine Vd (SlB (qW w) w.toNat B r S t men slots s σ) (fun env _=>match tg env.t 67 with | .int _ i=>men - i.toNat | _=>0) ⟨_,0,vs,F,os,g,rfl,by simp [hl],by simp [hl,g1],by simp [hl,g6],by simp [hl,g7],by simp [hl,g8],by simp [hl,g10],by simp [hl,g11],by simp [hl],by simp [hl,g53],by simp [hl,g54],by simp [hl,g55],by simp [hl],by simp [hl,hrl],by simp [hl],by omega,by simp,hA,by simpa [Ui] using hF0,by simpa [Ui] using hF1,by simpa [Ui] using hF2⟩ ?_
   clear hl g1 g6 g7 g8 g10 g11 g53 g54 g55 hA hF0 hF1 hF2 u vs F os g
   rintro env _ ⟨u,m,vs,F,os,g,rfl,hl,g1,g6,g7,g8,g10,g11,g12,g53,g54,g55,g65,g66,g67,hm,rfl,hA,hF0,hF1,hF2⟩
   rcases Qzn m men with hlt2 | hge2
   ·have hlt2':(m:Int)<(men:Int):=by omega
    have hx2:=w64 (n:=(m:Int)+1) (by omega) (by omega)
    have hmI:m<(Ya (Zf t men s)).length:=by omega
    have hmG:(Ya (Zf t men s))[m]'hmI=.int .i64 (t s m):=by simp [Ya,Zf]
    have hmG2:(Ya (Zf t men s))[m]? = some (.int .i64 (t s m)):=by rw [Qze hmI,hmG]
    rcases hcell s m with hno | ⟨h0,hK⟩
    ·have hneg:(-1:Int)<0:=by omega
     simp [-Xa,hl,g1,g6,g7,g8,g10,g11,g12,g53,g54,g55,g65,g66,g67,hlt2,hlt2',hmI,hmG,hmG2,hrl,hno,hx2]
     exact ⟨⟨_,m+1,vs,F,os,g,rfl,by simp [hl],by simp [hl,g1],by simp [hl,g6],by simp [hl,g7],by simp [hl,g8],by simp [hl,g10],by simp [hl,g11],by simp [hl,g12],by simp [hl,g53],by simp [hl,g54],by simp [hl,g55],by simp [hl,g65],by simp [hl,g66],by simp [hl],hlt2,by simp,hA,by rw [Ui,if_pos hno,List.append_nil];exact hF0,by rw [Ui,if_pos hno,List.append_nil];exact hF1,by rw [Ui,if_pos hno,List.append_nil];exact hF2⟩,by omega⟩
    ·have hn0:¬ t s m<0:=by omega
     have hnK:¬ (r.ntcs.length:Int)≤t s m:=by omega
     have hm0:¬ (m:Int)<0:=by omega
     obtain ⟨n,hn⟩:∃ n,t s m=n:=⟨_,rfl⟩
     rw [hn] at hmG hmG2 hn0 hnK h0 hK
     simp [-Xa,hl,g1,g6,g7,g8,g10,g11,g12,g53,g54,g55,g65,g66,g67,hlt2,hlt2',hmI,hmG,hmG2,hrl,hn0,hnK,hm0]
     have hbw:IntKind.u8.wrap (((((w.toNat:Nat):Int).fdiv (2^min m IntKind.u8.bits) % 2^IntKind.u8.bits).toNat &&& ((1:Int) % 2^IntKind.u8.bits).toNat:Nat):Int)=Yas w m:=rfl
     rw [hbw]
     have hn9:0≤n∧n≤9:=by omega
     have hw10:=w64 (n:=10*(s:Int)) (by omega) (by omega)
     have hw11:=w64 (n:=10*(s:Int)+(m:Int)) (by omega) (by omega)
     have hit:=Yap n (by omega) (by omega)
     have hnum:10*(s:Int)+(m:Int)=Wh (s,m,n):=rfl
     have hite:Lib.itoa n=Wc (s,m,n):=rfl
     have hFlen:∀ k,k<3→(F k).length≤2^20:=fun k hk=>by
      have q1:=Za0 t s m
      have q2:=Ya1 t men s
      have q3:s*men≤6*5:=Nat.mul_le_mul (by omega) (by omega)
      have q4:∀ X:List Ent,(F k).map Prod.fst=X→X.length≤(Wg t men s++Ui t s m).length→(F k).length≤2^20:=fun X e1 e2=>by
       have:=congrArg List.length e1
       rw [List.length_map] at this
       rw [List.length_append] at e2
       omega
      match k,hk with
      | 0,_=>exact q4 _ hF0 (List.length_filter_le _ _)
      | 1,_=>exact q4 _ hF1 (List.length_filter_le _ _)
      | 2,_=>exact q4 _ hF2 (Nat.le_refl _)
     have hre:Ui t s (m+1)=Ui t s m++[(s,m,n)]:=by rw [Ui,if_neg (by omega),hn]
     refine Us [13,15] [(0,1)] mixed (by kernel_rfl) (by kernel_rfl) ?_
     rcases Wgb w m with hb | hb
     ·have hqv:qW w (s,m,n)=false:=by unfold qW;rw [hb];decide
      rw [hb]
      obtain ⟨v1,g',jo,he,⟨ln,hv1⟩,hA1⟩:=(hA.base (b':=σ++[B,AObj.cells [.int .i64 men,.pl 2 (r.ntcs.map Xc)],.cells [vs 0,vs 1]]) (by simp)).push1 (n:=0) (by omega) (s,m,n) (hFlen 0 (by omega))
      rw [← hnum,← hite] at he
      rw [show (σ++[B,AObj.cells [.int .i64 men,.pl 2 (r.ntcs.map Xc)],.cells [vs 0,vs 1]]).length=σ.length+3 by simp] at hv1
      simp [-Xa] at he
      subst hv1
      obtain ⟨v2,g2,j2,he2,hA2⟩:=(hA1.base (b':=σ++[B,AObj.cells [.int .i64 men,.pl 2 (r.ntcs.map Xc)],.cells [.arr 3 (σ.length+3+jo) 0 ln,vs 1]]) (by simp)).push2 (s,m,n) (by rw [Zu _ _ (by decide)];exact hFlen 2 (by omega))
      rw [Zu _ _ (by decide),show (σ++[B,AObj.cells [.int .i64 men,.pl 2 (r.ntcs.map Xc)],.cells [.arr 3 (σ.length+3+jo) 0 ln,vs 1]]).length=σ.length+3 by simp,← hnum,show Xy=[110,111,116,104,105,110,103] from rfl,show σ.length+3+(g'.length+1)=σ.length+(g'.length+1+1+1)+1 by omega,show σ.length+3+g'.length=σ.length+(g'.length+1+1+1) by omega] at he2
      simp [-Xa] at he2
      simp [-Xa,hl,g1,g6,g7,g8,g10,g11,g12,g53,g54,g55,g65,g66,g67,hw10,hw11]
      refine Ut hit ?_
      simp [-Xa,hl,g1,g6,g7,g8,g10,g11,g12,g53,g54,g55,g65,g66,g67,hw10,hw11]
      rw [he,Zn]
      simp [-Xa,hl,g1,g6,g7,g8,g10,g11,g12,g53,g54,g55,g65,g66,g67,hw10,hw11,hx2]
      rw [he2,Zn]
      exact ⟨⟨_,m+1,Zk (Zk vs 0 (.arr 3 (σ.length+3+jo) 0 ln)) 2 v2,_,_,g2,rfl,by simp [hl],by simp [hl,g1],by simp [hl,g6],by simp [hl,g7],by simp [hl,g8],by simp [hl,g10],by simp [hl,Zk],by simp [hl,g12],by simp [hl,g53],by simp [hl,g54],by simp [hl,g55],by simp [hl,g65],by simp [hl,g66],by simp [hl],hlt2,by simp [Zk],hA2.base (by simp),by rw [hre,← List.append_assoc,List.filter_append];simp [Zk,hqv,hF0],by rw [hre,← List.append_assoc,List.filter_append];simp [Zk,hqv,hF1],by rw [hre,← List.append_assoc];simp [Zk,hF2]⟩,by omega⟩
     ·have hqv:qW w (s,m,n)=true:=by unfold qW;rw [hb];decide
      rw [hb]
      obtain ⟨v1,g',jo,he,⟨ln,hv1⟩,hA1⟩:=(hA.base (b':=σ++[B,AObj.cells [.int .i64 men,.pl 2 (r.ntcs.map Xc)],.cells [vs 0,vs 1]]) (by simp)).push1 (n:=1) (by omega) (s,m,n) (hFlen 1 (by omega))
      rw [← hnum,← hite] at he
      rw [show (σ++[B,AObj.cells [.int .i64 men,.pl 2 (r.ntcs.map Xc)],.cells [vs 0,vs 1]]).length=σ.length+3 by simp] at hv1
      simp [-Xa] at he
      subst hv1
      obtain ⟨v2,g2,j2,he2,hA2⟩:=(hA1.base (b':=σ++[B,AObj.cells [.int .i64 men,.pl 2 (r.ntcs.map Xc)],.cells [vs 0,.arr 3 (σ.length+3+jo) 0 ln]]) (by simp)).push2 (s,m,n) (by rw [Zu _ _ (by decide)];exact hFlen 2 (by omega))
      rw [Zu _ _ (by decide),show (σ++[B,AObj.cells [.int .i64 men,.pl 2 (r.ntcs.map Xc)],.cells [vs 0,.arr 3 (σ.length+3+jo) 0 ln]]).length=σ.length+3 by simp,← hnum,show Xy=[110,111,116,104,105,110,103] from rfl,show σ.length+3+(g'.length+1)=σ.length+(g'.length+1+1+1)+1 by omega,show σ.length+3+g'.length=σ.length+(g'.length+1+1+1) by omega] at he2
      simp [-Xa] at he2
      simp [-Xa,hl,g1,g6,g7,g8,g10,g11,g12,g53,g54,g55,g65,g66,g67,hw10,hw11]
      refine Ut hit ?_
      simp [-Xa,hl,g1,g6,g7,g8,g10,g11,g12,g53,g54,g55,g65,g66,g67,hw10,hw11]
      rw [he,Zn]
      simp [-Xa,hl,g1,g6,g7,g8,g10,g11,g12,g53,g54,g55,g65,g66,g67,hw10,hw11,hx2]
      rw [he2,Zn]
      exact ⟨⟨_,m+1,Zk (Zk vs 1 (.arr 3 (σ.length+3+jo) 0 ln)) 2 v2,_,_,g2,rfl,by simp [hl],by simp [hl,g1],by simp [hl,g6],by simp [hl,g7],by simp [hl,g8],by simp [hl,g10],by simp [hl,Zk],by simp [hl,g12],by simp [hl,g53],by simp [hl,g54],by simp [hl,g55],by simp [hl,g65],by simp [hl,g66],by simp [hl],hlt2,by simp [Zk],hA2.base (by simp),by rw [hre,← List.append_assoc,List.filter_append];simp [Zk,hqv,hF0],by rw [hre,← List.append_assoc,List.filter_append];simp [Zk,hqv,hF1],by rw [hre,← List.append_assoc];simp [Zk,hF2]⟩,by omega⟩
   ·obtain rfl:m=men:=by omega
    simp [-Xa,hl,g1,g6,g7,g8,g10,g11,g12,g53,g54,g55,g65,g66,g67,hx]
    exact ⟨⟨_,s+1,vs,F,os,g,rfl,by simp [hl],by simp [hl,g1],by simp [hl,g6],by simp [hl,g7],by simp [hl,g8],by simp [hl,g10],by simp [hl,g11],by simp [hl,g53],by simp [hl,g54],by simp [hl],hlt,by simp,hA,hF0,hF1,hF2⟩,by omega⟩
  ·obtain rfl:s=slots:=by omega
   simp [-Xa,hl,g1,g6,g7,g8,g10,g11,g53,g54,g55]
   exact ⟨B,r,S,t,men,s,hF,⟨_,s,vs,F,os,g,rfl,by simp [hl],by simp [hl,g1],by simp [hl,g6],by simp [hl,g7],by simp [hl,g8],by simp [hl,g10],by simp [hl,g11],by simp [hl,g53],by simp [hl,g54],by simp [hl,g55],by omega,by simp,hA,hF0,hF1,hF2⟩,rfl⟩
 ·rintro env s h
  exact h2 env s h
end Ab

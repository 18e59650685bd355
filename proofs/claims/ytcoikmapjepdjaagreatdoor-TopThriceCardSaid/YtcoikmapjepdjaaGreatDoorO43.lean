/-
  Texts packed for a claim.
-/
import Derived.Test.YtcoikmapjepdjaaGreatDoorO00
import Derived.Test.YtcoikmapjepdjaaGreatDoorO13
import Derived.Test.YtcoikmapjepdjaaGreatDoorO21
import Derived.Test.YtcoikmapjepdjaaGreatDoorO42
set_option linter.all false
namespace Ab
open Go Go.RowKit Go.Proofs
structure ThF (r:Rl) (S:List (List Int)) (t:Tab) (men slots n:Nat):Prop where
 slf:SlF r S t men slots
 least:LeastS r S n
 k1:1≤r.ntcs.length
 k4:r.ntcs.length≤4
structure RwAcc (b g:Za) (v:AV) (F:List (Ent × AV)) (o:Option Nat):Prop where
 acc:Acc b g 3 v (F.map Zt) o
 words:∀ p∈F,∃ q,p.2=.arr 1 (b.length+q) 0 1∧some q≠o∧g[q]? = some (.cells [.str (Xh p.1)])
theorem RwAcc.base {b b' g:Za} {v:AV} {F:List (Ent × AV)} {o:Option Nat} (h:RwAcc b g v F o) (hb:b'.length=b.length):RwAcc b' g v F o :=
 ⟨h.acc.base hb.symm,fun p hp=>by rw [hb];exact h.words p hp⟩
theorem RwAcc.push {b g:Za} {v:AV} {F:List (Ent × AV)} {o:Option Nat} (h:RwAcc b g v F o) (e:Ent) (hl:F.length≤2^20) :
  ∃ v' g' jo,Xa Tryz.prog #[57,57] v (.arr 3 (b.length+(g.length+1)) 0 1) (b++(g++[.cells [.str (Xh e)],.cells [.int .i64 1,.int .i64 (Zl e),.arr 1 (b.length+g.length) 0 1]]))=some (v',b++g')∧RwAcc b g' v' (F++[(e,AV.arr 1 (b.length+g.length) 0 1)]) (some jo):=by
 obtain ⟨v',g',o',he,hA',hlen,hkeep,ho⟩:=(h.acc.more [.cells [.str (Xh e)]]).push (P:=Tryz.prog) (t:=57) (e:=88) (ag:=true) (x:=Zt (e,AV.arr 1 (b.length+g.length) 0 1)) (by simp) (by simp) (by simp) (by omega) ⟨rfl,by simp [AV.cells,AV.one,Zt]⟩ (by simp;omega)
 have e1:F.map Zt++[Zt (e,AV.arr 1 (b.length+g.length) 0 1)]=(F++[(e,AV.arr 1 (b.length+g.length) 0 1)]).map Zt:=by simp
 rw [e1] at hA'
 obtain ⟨jo,rfl⟩:∃ jo,o'=some jo:=by
  cases o' with
  | none=>exact absurd hA'.val.2 (by simp)
  | some jo=>exact ⟨jo,rfl⟩
 have hol:∀ j,o=some j→j<g.length:=fun j e=>by
  have:=h.acc.val
  rw [e] at this
  exact (Qzs.1 this.2).1
 have hjo:some jo=o∨g.length+1≤jo:=by
  rcases ho with h1 | ⟨m,h2,h1⟩
  ·exact .inl h1
  ·exact .inr (by simp at h1 h2;omega)
 refine ⟨v',g',jo,by simpa [-Xa,Zt,AV.cells] using he,hA',fun p hp=>?_⟩
 rcases List.mem_append.1 hp with hp | hp
 ·obtain ⟨q,h1,h2,h3⟩:=h.words p hp
  have hql:=(Qzs.1 h3).1
  refine ⟨q,h1,fun e=>?_,?_⟩
  ·rcases hjo with h4 | h4
   ·exact h2 (e.trans h4)
   ·have:=Option.some.inj e;omega
  ·rw [hkeep q h2 (by simp;omega),Qzl hql];exact h3
 ·rw [List.mem_singleton.1 hp]
  refine ⟨g.length,rfl,fun e=>?_,?_⟩
  ·rcases hjo with h4 | h4
   ·have:=hol _ (h4.symm.trans e.symm);omega
   ·have:=Option.some.inj e;omega
  ·rw [hkeep _ (fun e=>by have:=hol _ e.symm;omega) (by simp),Qzr (Nat.le_refl _),Nat.sub_self]
   rfl
def ThA (l2:List UInt8) (dm:Nat) (B:AObj) (r:Rl) (S:List (List Int)) (t:Tab) (men slots:Nat) (σ:Za) (env:Env) (σ':Za):Prop:=∃ (u:List AV) (s:Nat) (v:AV) (F:List (Ent × AV)) (o:Option Nat) (g:Za),env={ t:=u }∧u.length=315∧tg u 1=.pl 1 (Zi l2)∧tg u 2=.int .u16 dm∧tg u 7=.ptr (σ.length+1) 0∧tg u 8=Ze (Uf t men slots)∧tg u 10=Ze S∧tg u 12=v∧tg u 78=.pl 1 ((Uf t men slots).map fun x=>.pl 1 (Ya x))∧tg u 79=.int .i64 slots∧tg u 80=.int .i64 s∧s≤slots ∧
 σ'=(σ++[B,.cells [.int .i64 men,.pl 2 (r.ntcs.map Zc)]])++g∧RwAcc (σ++[zRl,zRl]) g v F o∧F.map Prod.fst=Wd t men s
def ThB (l2:List UInt8) (dm:Nat) (B:AObj) (r:Rl) (S:List (List Int)) (t:Tab) (men slots s:Nat) (σ:Za) (env:Env) (σ':Za):Prop:=∃ (u:List AV) (m:Nat) (v:AV) (F:List (Ent × AV)) (o:Option Nat) (g:Za),env={ t:=u }∧u.length=315∧tg u 1=.pl 1 (Zi l2)∧tg u 2=.int .u16 dm∧tg u 7=.ptr (σ.length+1) 0∧tg u 8=Ze (Uf t men slots)∧tg u 10=Ze S∧tg u 12=v∧tg u 13=.int .i64 s∧tg u 78=.pl 1 ((Uf t men slots).map fun x=>.pl 1 (Ya x))∧tg u 79=.int .i64 slots∧tg u 80=.int .i64 s∧tg u 90=.pl 1 (Ya (Wi t men s))∧tg u 91=.int .i64 men∧tg u 92=.int .i64 m∧m≤men ∧
 σ'=(σ++[B,.cells [.int .i64 men,.pl 2 (r.ntcs.map Zc)]])++g∧RwAcc (σ++[zRl,zRl]) g v F o∧F.map Prod.fst=Wd t men s++Vk t s m
attribute [local irreducible] aws awp aw1 Og Om Oc Oa Ogd Ov Ot awd Zb awh Wb Ogh Ohd awl Ogl Ohl awv Ogv Ohv Xb Vb QFn Ub Xi QRo QBe Ui Uj ACode AYield
set_option maxHeartbeats 8000000 in
theorem Udq (l1 l2:List UInt8) (h1:l1.length≤9223372036854775807) (dm:Nat) (σ:Za) (Q:AV→Za→Prop) (hQ:∀ g,Q (.bool true) (σ++g))
  (h2:∀ (env:Env) (s:Za),(∃ (B:AObj) (r:Rl) (S:List (List Int)) (t:Tab) (men slots n:Nat),ThF r S t men slots n∧ThA l2 dm B r S t men slots σ env s∧tg env.t 80=.int .i64 slots)→ACode Tryz.prog none (Vd 8 (Tryz.f5.body.getD .skip)).2 (QFn Tryz.prog Tryz.f5 Q) env s) :
  ACalls Tryz.prog 5 [.pl 1 (Zi l1),.pl 1 (Zi l2),.int .u16 dm] σ Q:=by
 refine Wc0 8 (fun env s=>∃ (B:AObj) (r:Rl) (S:List (List Int)) (t:Tab) (men slots n:Nat),ThF r S t men slots n∧ThA l2 dm B r S t men slots σ env s∧tg env.t 80=.int .i64 slots) Tryz.func5 rfl (Ua Tryz.func5 (by decide) rfl) ?_ ?_
 ·simp [-Xa,Tryz.ntmps5]
  refine StA.of ((Zb4 σ _ rfl).mono ?_)
  rintro v σ' ⟨rfl,rfl⟩
  refine StA.of ((Yc6 (σ++[Yd l1 0 0]) σ.length l1 0 0 (by simp) (by omega) h1 4 4 (by omega) (by omega) (by omega)).mono ?_)
  rintro v σ' ⟨r,a1,c1,rfl,ok,hm4,hn4,ha1,rfl⟩
  have hm1:=ok.m1
  have hset:∀ a c,(σ++[Yd l1 0 0]).set σ.length (Yd l1 a c)=σ++[Yd l1 a c]:=fun a c=>by simp
  rw [hset]
  obtain ⟨B,hB⟩:∃ B,Yd l1 a1 c1=B:=⟨_,rfl⟩
  rw [hB]
  have hr0:Uh r=.agg [.int .i64 r.men,.pl 2 (r.ntcs.map Zc)]:=rfl
  rw [hr0]
  try simp [-Xa]
  refine StA.of ((by rw [← hr0];exact Wia ok _:ACalls Tryz.prog 36 [.agg [.int .i64 r.men,.pl 2 (r.ntcs.map Zc)]] _ _).mono ?_)
  rintro v σ' ⟨S,n,t,hS,hT,rfl,rfl⟩
  have hsh:=hS.ok ok
  have cH:=Yh7 r ok S hsh t hT
  obtain ⟨slots,hsn⟩:∃ k:Nat,(slotsOf r S).toNat=k:=⟨_,rfl⟩
  obtain ⟨men,hmen⟩:∃ k:Nat,r.men.toNat=k:=⟨_,rfl⟩
  have hmen':r.men=men:=by omega
  have hsl:=Vbl ok hsh
  rw [hsn,hmen] at cH
  rw [hsn] at hT ⊢
  rw [hmen]
  rw [hr0] at cH
  try simp [-Xa]
  refine cH.use ?_
  have hF:SlF r S t men slots:=⟨ok,hsh,hT,hsn,by omega,hmen',by omega,by omega⟩
  have hpl:(Uf t men slots).length=slots:=by simp [Uf]
  have hp0:Ze (Uf t men slots)=.pl 1 ((Uf t men slots).map fun x=>.pl 1 (Ya x)):=rfl
  have hS0:Ze S=.pl 1 (S.map fun x=>.pl 1 (Ya x)):=rfl
  have hSl:=hsh.len
  have hn8:¬ (8:Int)<(slots:Int):=by omega
  rw [hp0,hS0,hmen']
  by_cases hK:r.ntcs.length=0
  ·simp [-Xa,hpl,hn8,hSl,hK]
   refine awake11_calls.use ?_
   try simp
   have:=hQ [B,.cells [.int .i64 men,.pl 2 (r.ntcs.map Zc)]]
   simpa using this
  have hK':¬ (r.ntcs.length:Int)=0:=by omega
  simp [-Xa,hpl,hn8,hSl,hK,hK']
  refine Xc (ThA l2 dm B r S t men slots σ) (fun env _=>match tg env.t 80 with | .int _ i=>slots - i.toNat | _=>0) ⟨_,0,.nils,[],none,[],rfl,by simp,by simp,by simp,by simp,by simp [hp0],by simp [hS0],by simp,by simp,by simp,by simp,by omega,by simp,⟨by simpa using Acc.nil _ _ _,by simp⟩,by simp [Wd]⟩ ?_
  have hcell:∀ s m,t s m=-1∨(0≤t s m∧t s m<r.ntcs.length):=fun s m=>by
   rcases Classical.em (t s m=-1) with e | e
   ·exact .inl e
   ·have:=hsh.pairs ok (hT.mem s m e);exact .inr ⟨this.2.1,this.2.2⟩
  have hm4':men≤4:=by omega
  have hs6':slots≤6:=by omega
  have hK4:r.ntcs.length≤4:=by omega
  clear hsl
  rintro env _ ⟨u,s,v,F,o,g,rfl,hl,g1,g2,g7,g8,g10,g12,g78,g79,g80,hs,rfl,hA,hF0⟩
  rcases Qzn s slots with hlt | hge
  ·have hlt':(s:Int)<(slots:Int):=by omega
   have hx:=w64 (n:=(s:Int)+1) (by omega) (by omega)
   have hrl:(Ya (Wi t men s)).length=men:=by simp [Ya,Yal]
   have hsl2:s<(Uf t men slots).length:=by rw [hpl];exact hlt
   have hrow:(Uf t men slots)[s]'hsl2=Wi t men s:=by simp [Uf,Wi]
   simp [-Xa,hl,g1,g2,g7,g8,g10,g12,g78,g79,g80,hlt,hlt',hpl,hsl2,hrow,hrl]
   refine Xc (ThB l2 dm B r S t men slots s σ) (fun env _=>match tg env.t 92 with | .int _ i=>men - i.toNat | _=>0) ⟨_,0,v,F,o,g,rfl,by simp [hl],by simp [hl,g1],by simp [hl,g2],by simp [hl,g7],by simp [hl,g8],by simp [hl,g10],by simp [hl,g12],by simp [hl],by simp [hl,g78],by simp [hl,g79],by simp [hl,g80],by simp [hl],by simp [hl,hrl],by simp [hl],by omega,by simp,hA,by simpa [Vk] using hF0⟩ ?_
   clear hl g1 g2 g7 g8 g10 g12 g78 g79 g80 hA hF0 u v F o g
   rintro env _ ⟨u,m,v,F,o,g,rfl,hl,g1,g2,g7,g8,g10,g12,g13,g78,g79,g80,g90,g91,g92,hm,rfl,hA,hF0⟩
   rcases Qzn m men with hlt2 | hge2
   ·have hlt2':(m:Int)<(men:Int):=by omega
    have hx2:=w64 (n:=(m:Int)+1) (by omega) (by omega)
    have hmI:m<(Ya (Wi t men s)).length:=by omega
    have hmG:(Ya (Wi t men s))[m]'hmI=.int .i64 (t s m):=by simp [Ya,Wi]
    have hmG2:(Ya (Wi t men s))[m]? = some (.int .i64 (t s m)):=by rw [Qze hmI,hmG]
    rcases hcell s m with hno | ⟨h0,hK1⟩
    ·simp [-Xa,hl,g1,g2,g7,g8,g10,g12,g13,g78,g79,g80,g90,g91,g92,hlt2,hlt2',hmI,hmG,hmG2,hrl,hno,hx2]
     exact ⟨⟨_,m+1,v,F,o,g,rfl,by simp [hl],by simp [hl,g1],by simp [hl,g2],by simp [hl,g7],by simp [hl,g8],by simp [hl,g10],by simp [hl,g12],by simp [hl,g13],by simp [hl,g78],by simp [hl,g79],by simp [hl,g80],by simp [hl,g90],by simp [hl,g91],by simp [hl],hlt2,by simp,hA,by rw [Vk,if_pos hno,List.append_nil];exact hF0⟩,by omega⟩
    ·have hne:¬ t s m=-1:=by omega
     obtain ⟨n,hn⟩:∃ n,t s m=n:=⟨_,rfl⟩
     rw [hn] at hmG hmG2 h0 hK1 hne
     have hmax:(if 0<n then n else 0)=n:=by split<;>omega
     have hw10:=w64 (n:=10*(s:Int)) (by omega) (by omega)
     have hw11:=w64 (n:=10*(s:Int)+(m:Int)) (by omega) (by omega)
     have hit:=Xa1 n (by omega) (by omega)
     have hnum:10*(s:Int)+(m:Int)=Zl (s,m,n):=rfl
     have hite:Lib.itoa n=Xh (s,m,n):=rfl
     have hre:Vk t s (m+1)=Vk t s m++[(s,m,n)]:=by rw [Vk,if_neg (by omega),hn]
     have hFlen:F.length≤2^20:=by
      have q1:=Ua8 t s m
      have q2:=Ubd t men s
      have q3:s*men≤6*5:=Nat.mul_le_mul (by omega) (by omega)
      have:=congrArg List.length hF0
      rw [List.length_map,List.length_append] at this
      omega
     obtain ⟨v',g',jo,he,hA'⟩:=(hA.base (b':=σ++[B,.cells [.int .i64 men,.pl 2 (r.ntcs.map Zc)]]) (by simp)).push (s,m,n) hFlen
     rw [← hnum,← hite,show (σ++[B,AObj.cells [.int .i64 men,.pl 2 (r.ntcs.map Zc)]]).length=σ.length+2 by simp,show σ.length+2+(g.length+1)=σ.length+(g.length+1+1+1) by omega,show σ.length+2+g.length=σ.length+(g.length+1+1) by omega] at he
     simp [-Xa] at he
     simp [-Xa,hl,g1,g2,g7,g8,g10,g12,g13,g78,g79,g80,g90,g91,g92,hlt2,hlt2',hmI,hmG,hmG2,hrl,hne,hw10,hw11,hmax]
     refine StA.of ((hit _).mono ?_)
     rintro _ _ ⟨rfl,rfl⟩
     simp [-Xa,hl,g1,g2,g7,g8,g10,g12,g13,g78,g79,g80,g90,g91,g92,hw10,hw11]
     rw [he,Xk]
     simp [-Xa,hl,g1,g2,g7,g8,g10,g12,g13,g78,g79,g80,g90,g91,g92,hw10,hw11,hx2]
     exact ⟨⟨_,m+1,v',_,some jo,g',rfl,by simp [hl],by simp [hl,g1],by simp [hl,g2],by simp [hl,g7],by simp [hl,g8],by simp [hl,g10],by simp [hl],by simp [hl,g13],by simp [hl,g78],by simp [hl,g79],by simp [hl,g80],by simp [hl,g90],by simp [hl,g91],by simp [hl],hlt2,by simp,hA'.base (by simp),by rw [hre,← List.append_assoc,← hF0];simp⟩,by omega⟩
   ·obtain rfl:m=men:=by omega
    simp [-Xa,hl,g1,g2,g7,g8,g10,g12,g13,g78,g79,g80,g90,g91,g92,hx]
    exact ⟨⟨_,s+1,v,F,o,g,rfl,by simp [hl],by simp [hl,g1],by simp [hl,g2],by simp [hl,g7],by simp [hl,g8],by simp [hl,g10],by simp [hl,g12],by simp [hl,g78],by simp [hl,g79],by simp [hl],hlt,by simp,hA,hF0⟩,by omega⟩
  ·obtain rfl:s=slots:=by omega
   simp [-Xa,hl,g1,g2,g7,g8,g10,g12,g78,g79,g80]
   exact ⟨B,r,S,t,men,s,⟨n,hF,hS,by omega,hK4⟩,⟨_,s,v,F,o,g,rfl,by simp [hl],by simp [hl,g1],by simp [hl,g2],by simp [hl,g7],by simp [hl,g8],by simp [hl,g10],by simp [hl,g12],by simp [hl,g78],by simp [hl,g79],by simp [hl,g80],by omega,by simp,hA,hF0⟩,rfl⟩
 ·rintro env s h
  exact h2 env s h
end Ab
namespace Ab
open Go Go.RowKit Go.Proofs
theorem Za0 {n:Nat} {a b:Code}:(Vd (n+1) (.seq a b)).2=(Vd n b).2:=rfl
theorem Va0 {c:Code}:(Vd 0 c).2=c:=by cases c<;>rfl
theorem Vfg {f:List Oyez.Rec} (h:f≠[]):2≤(Oyez.print f).length:=by
 match f,h with
 | r::f,_ =>
  unfold Oyez.print
  rw [List.flatMap_cons]
  simp only [List.length_append,Oyez.line,List.length_singleton]
  omega
theorem Vd2 {a k:Nat} (ha:a<256) (hk:1≤k) (hk2:k≤255):a ^^^ k<256∧a ^^^ k≠a:=by
 refine ⟨Nat.xor_lt_two_pow (n:=8) ha (by omega),fun e=>?_⟩
 have h1:a ^^^ (a ^^^ k)=k:=by rw [← Nat.xor_assoc,Nat.xor_self,Nat.zero_xor]
 rw [e,Nat.xor_self] at h1
 omega
theorem RwAcc.vw {b g T:Za} {v:AV} {F:List (Ent × AV)} {o:Option Nat} (h:RwAcc b g v F o) (hT:∀ (j:Nat) x,g[j]? = some (.cells x)→T[b.length+j]? = some (.cells x)):Fz 0 T v (Yk (Yj Xh (F.map Prod.fst))):=by
 refine h.acc.fzG (by omega) (Nat.zero_le _) (fun j x _ e=>hT j x e) (by simp [Yj]) fun i x y hx hy=>?_
 rw [Qzp,Qzm] at hx
 obtain ⟨p,hp,rfl⟩:=hx
 have hy':y=Yg ⟨1,Zl p.1,[Xh p.1]⟩:=by
  unfold Yj at hy
  rw [Qzp,Qzp,Qzp,hp] at hy
  exact (Option.some.inj hy).symm
 subst hy'
 have hpm:=Qzg hp
 refine ⟨rfl,fun z hz=>?_,fun j a b ha hb=>?_⟩
 ·simp [Yg,AV.cells,Xl] at hz
  rcases hz with rfl | rfl | rfl<;>rfl
 ·match j,ha,hb with
  | 0,ha,hb=>simp [Zt,Yg,AV.cells] at ha hb;subst ha;subst hb;exact .int _ _
  | 1,ha,hb=>simp [Zt,Yg,AV.cells] at ha hb;subst ha;subst hb;exact .int _ _
  | 2,ha,hb =>
   simp [Zt,Yg,AV.cells] at ha hb
   subst ha;subst hb
   obtain ⟨q,e1,_,e3⟩:=h.words p hpm
   rw [e1]
   exact Ubz (n:=0) (cs:=[.str (Xh p.1)]) (Nat.zero_le _) (hT q _ e3) fun y hy=>by rw [List.mem_singleton.1 hy];exact ⟨rfl,rfl,.str _⟩
  | j+3,ha,hb=>simp [Zt,AV.cells] at ha
theorem ThF.ent {r:Rl} {S:List (List Int)} {t:Tab} {men slots n:Nat} (h:ThF r S t men slots n):Wd t men slots≠[]:=by
 have hk:=h.k1
 have hsh:=h.slf.sh
 have hSl:=hsh.len
 have h0:0<S.length:=by omega
 obtain ⟨nt,hnt,hno,h1,_,_⟩:=hsh.mem h.slf.ok (Qze h0)
 have t1:=hno.t1
 obtain ⟨m,hm⟩:=List.exists_mem_of_length_pos (l:=S[0]) (by omega)
 have hp:(m.toNat,((0:Nat):Int))∈shP S:=mem_shP.2 ⟨0,S[0],Qze h0,rfl,m,hm,rfl⟩
 obtain ⟨s,hs⟩:=h.slf.inv.all _ _ hp
 have hmen:=hsh.pairs h.slf.ok hp
 have hss:s<slots:=Nat.lt_of_not_le fun hle=>by
  have:=h.slf.inv.hi s m.toNat hle
  rw [hs] at this;omega
 intro e
 have:(s,m.toNat,t s m.toNat)∈Wd t men slots:=entE_mem.2 ⟨hss,by have:=h.slf.hmen;show m.toNat<men;omega,rfl,by rw [hs];omega⟩
 rw [e] at this
 cases this
def ThC (l2:List UInt8) (B:AObj) (r:Rl) (S:List (List Int)) (t:Tab) (men slots:Nat) (σ:Za) (env:Env) (σ':Za):Prop:=∃ (u:List AV) (g:Za),env={ t:=u }∧u.length=315∧tg u 1=.pl 1 (Zi l2)∧tg u 7=.ptr (σ.length+1) 0∧tg u 8=Ze (Uf t men slots)∧tg u 10=Ze S∧tg u 23=Yk (Yj Xh (Wd t men slots))∧σ'=(σ++[B,.cells [.int .i64 men,.pl 2 (r.ntcs.map Zc)]])++g
attribute [local irreducible] aws awp aw1 Og Om Oc Oa Ogd Ov Ot awd Zb awh Wb Ogh Ohd awl Ogl Ohl awv Ogv Ohv Xb Vb QFn Ub Xi QRo QBe Ui Uj ACode AYield
set_option maxRecDepth 20000 in
set_option maxHeartbeats 8000000 in
theorem Zgq (l2:List UInt8) (dm:Nat) (hdm:dm<65536) (σ:Za) (Q:AV→Za→Prop) {B:AObj} {r:Rl} {S:List (List Int)} {t:Tab} {men slots n:Nat} (hF:ThF r S t men slots n) {env:Env} {s:Za} (hA:ThA l2 dm B r S t men slots σ env s) (h80:tg env.t 80=.int .i64 slots)
  (h3:∀ (env:Env) (s:Za),ThC l2 B r S t men slots σ env s→ACode Tryz.prog none (Vd 9 (Vd 8 (Tryz.f5.body.getD .skip)).2).2 (QFn Tryz.prog Tryz.f5 Q) env s) :
  ACode Tryz.prog none (Vd 8 (Tryz.f5.body.getD .skip)).2 (QFn Tryz.prog Tryz.f5 Q) env s:=by
 obtain ⟨u,s',v,F,o,g,rfl,hl,g1,g2,g7,g8,g10,g12,g78,g79,g80,hs',rfl,hA,hF0⟩:=hA
 obtain rfl:s'=slots:=by
  have h80':tg u 80=.int .i64 slots:=h80
  rw [g80] at h80'
  injection h80' with _ e
  omega
 have hne:=hF.ent
 have hEok:=hF.slf.ents
 obtain ⟨E,hE⟩:∃ E,Wd t men s'=E:=⟨_,rfl⟩
 rw [hE] at hF0 hne hEok
 obtain ⟨S0,hS0⟩:∃ S0,σ++[B,AObj.cells [.int .i64 men,.pl 2 (r.ntcs.map Zc)]]=S0:=⟨_,rfl⟩
 have hS0l:S0.length=σ.length+2:=by rw [← hS0];simp
 rw [hS0]
 have hbar:∀ (j:Nat) x,g[j]? = some (AObj.cells x)→(barP (fun r=>decide (S0.length≤r)) (S0++g))[(σ++[zRl,zRl]).length+j]? = some (.cells x):=fun j x hj=>by
  refine Van ?_ (by simp;omega)
  rw [Qzr (by simp;omega),show (σ++[zRl,zRl]).length+j - S0.length=j by simp;omega]
  exact hj
 have v0:=hA.vw hbar
 rw [hF0] at v0
 refine ACode.view (u':=Uc u [(1,.pl 1 (Zi l2)),(2,.int .u16 dm),(7,.ptr (σ.length+1) 0),(8,Ze (Uf t men s')),(10,Ze S),(12,Yk (Yj Xh E))]) _ (View.dropS S0 g) ?_ (Yt _ _) (Xaj (by
   simp only [List.mem_cons,List.not_mem_nil,or_false]
   rintro p (rfl | rfl | rfl | rfl | rfl | rfl)<;>dsimp only<;>first | (rw [g1];exact .inl rfl) | (rw [g2];exact .inl rfl) | (rw [g7];exact .inl rfl) | (rw [g8];exact .inl rfl) | (rw [g10];exact .inl rfl) | (rw [g12];exact .inr v0)))
 have hl3:=(Yt u [(1,.pl 1 (Zi l2)),(2,.int .u16 dm),(7,.ptr (σ.length+1) 0),(8,Ze (Uf t men s')),(10,Ze S),(12,Yk (Yj Xh E))]).trans hl
 obtain ⟨X8,hX8⟩:∃ X,Ze (Uf t men s')=X:=⟨_,rfl⟩
 obtain ⟨X10,hX10⟩:∃ X,Ze S=X:=⟨_,rfl⟩
 obtain ⟨X1,hX1⟩:∃ X,AV.pl 1 (Zi l2)=X:=⟨_,rfl⟩
 rw [hX1,hX8,hX10] at hl3 ⊢
 have rE:=Uf6 hEok (Xb9 hEok)
 have hchk:=Oyez.right_check rE
 obtain ⟨ffew,_,fpl,fwl⟩:=Ueu hchk
 have hpc:Wae (Yj Xh E)=(Oyez.print (Yj Xh E),0):=by unfold Wae;rw [if_pos hchk]
 have hpp:=Oyez.parse_print hchk
 have cP:=Yci _ ffew
 rw [hpc] at cP
 have cR:=Ydb (Oyez.print (Yj Xh E)) (by omega)
 rw [hpp] at cR
 have hrn:Yj Xh E≠[]:=fun e=>hne (by
  have:=congrArg List.length e
  simp [Yj] at this
  exact this)
 have hN2:=Vfg hrn
 have hTl:=Oyez.print_last hrn
 obtain ⟨T,hT⟩:∃ x,Oyez.print (Yj Xh E)=x:=⟨_,rfl⟩
 rw [hT] at cP cR hN2 hTl fpl
 unfold Xav at cR
 obtain ⟨FF,hFF⟩:∃ x,Yk (Yj Xh E)=x:=⟨_,rfl⟩
 rw [hFF] at cP cR hl3 ⊢
 obtain ⟨k1,k2,k7,k8,k10,k12⟩:tg (Uc u [(1,X1),(2,.int .u16 dm),(7,.ptr (σ.length+1) 0),(8,X8),(10,X10),(12,FF)]) 1=X1∧tg (Uc u [(1,X1),(2,.int .u16 dm),(7,.ptr (σ.length+1) 0),(8,X8),(10,X10),(12,FF)]) 2=.int .u16 dm∧tg (Uc u [(1,X1),(2,.int .u16 dm),(7,.ptr (σ.length+1) 0),(8,X8),(10,X10),(12,FF)]) 7=.ptr (σ.length+1) 0∧tg (Uc u [(1,X1),(2,.int .u16 dm),(7,.ptr (σ.length+1) 0),(8,X8),(10,X10),(12,FF)]) 8=X8∧tg (Uc u [(1,X1),(2,.int .u16 dm),(7,.ptr (σ.length+1) 0),(8,X8),(10,X10),(12,FF)]) 10=X10∧tg (Uc u [(1,X1),(2,.int .u16 dm),(7,.ptr (σ.length+1) 0),(8,X8),(10,X10),(12,FF)]) 12=FF:=by
  have q1:1<u.length:=by omega
  have q2:2<u.length:=by omega
  have q7:7<u.length:=by omega
  have q8:8<u.length:=by omega
  have q10:10<u.length:=by omega
  have q12:12<u.length:=by omega
  unfold Uc
  simp [tg,ts,q1,q2,q7,q8,q10,q12]
 obtain ⟨u',hu'⟩:∃ x,Uc u [(1,X1),(2,.int .u16 dm),(7,.ptr (σ.length+1) 0),(8,X8),(10,X10),(12,FF)]=x:=⟨_,rfl⟩
 rw [hu'] at hl3 k1 k2 k7 k8 k10 k12 ⊢
 obtain ⟨T0,hT0⟩:∃ T0,S0++g.map (fun _=>AObj.dead)=T0:=⟨_,rfl⟩
 have hgo:∀ X:Za,∃ g',T0++X=S0++g':=fun X=>⟨g.map (fun _=>AObj.dead)++X,by rw [← hT0,List.append_assoc]⟩
 rw [hT0]
 clear v0 hbar hA g1 g2 g7 g8 g10 g12 g78 g79 g80 h80 hl hu' u hT0
 have hse:=Oyez.seal_of hTl (by omega)
 have hSo:=Oyez.sealed_ok hTl (by omega)
 have hm1:=fun (i:Nat) (h:i+1<T.length) (c:UInt8) (hc:c≠T[i])=>Oyez.mend_sealed hTl (by omega) h hc
 have hop:Yae (Oyez.sealed T)=(T,0):=by unfold Yae;rw [hSo.opened];simp
 have hsd:=Oyez.sealed_def T
 have hsl:=hSo.len
 obtain ⟨W,hW⟩:∃ W,Oyez.sealLine (Oyez.sums T).1 (Oyez.sums T).2++[10]=W:=⟨_,rfl⟩
 have hWp:1≤W.length:=by rw [← hW];simp
 rw [List.append_assoc,hW] at hsd
 obtain ⟨SS,hS⟩:∃ S,Oyez.sealed T=S:=⟨_,rfl⟩
 rw [hS] at hse hop hsd hsl hm1
 have hSS:SS.length=T.length+W.length:=by rw [hsd,List.length_append]
 obtain ⟨N,hN⟩:∃ N,T.length=N:=⟨_,rfl⟩
 obtain ⟨I,hI⟩:∃ I,dm % (N - 1)=I:=⟨_,rfl⟩
 have hIN:I<N - 1:=by rw [← hI];exact Nat.mod_lt _ (by omega)
 have hx3:=w64 (n:=(N:Int) - 1) (by omega) (by omega)
 have hIm:(dm:Int).tmod ((N:Int) - 1)=(I:Int):=by rw [← hI,show (N:Int) - 1=((N - 1:Nat):Int) by omega];rfl
 have hw1:IntKind.i64.wrap (dm:Int)=dm:=w64 (by omega) (by omega)
 have hwI:IntKind.i64.wrap (I:Int)=I:=w64 (by omega) (by omega)
 have hIT:I<T.length:=by omega
 have hIS:I<SS.length:=by omega
 have hIS':(I:Int)<(SS.length:Int):=by omega
 have hSI:SS[I]=T[I]:=by
  have:SS[I]? = T[I]?:=by rw [hsd,Qzl hIT]
  rw [Qze hIS,Qze hIT] at this
  exact Option.some.inj this
 obtain ⟨k,hk⟩:∃ k,1+dm / 256 % 255=k:=⟨_,rfl⟩
 have hk1:1≤k∧k≤255:=by omega
 have hsh:IntKind.u8.wrap (IntKind.u16.wrap (1+((dm:Int).fdiv (2^min 8 IntKind.u16.bits)).tmod 255))=(k:Int):=by
  have e1:(dm:Int).fdiv (2^min 8 IntKind.u16.bits)=((dm / 256:Nat):Int):=by
   show (dm:Int).fdiv 256=_
   rw [Int.fdiv_eq_ediv_of_nonneg _ (by omega)]
   omega
  have e2:(((dm / 256:Nat):Int)).tmod 255=((dm / 256 % 255:Nat):Int):=rfl
  rw [e1,e2]
  have e3:(1:Int)+((dm / 256 % 255:Nat):Int)=(k:Int):=by omega
  rw [e3]
  simp only [IntKind.wrap,IntKind.bits,IntKind.signed]
  simp
  omega
 have hb:=T[I].toNat_lt
 obtain ⟨hx1,hx2⟩:=Vd2 (a:=T[I].toNat) (k:=k) hb hk1.1 hk1.2
 obtain ⟨c,hc⟩:∃ c,UInt8.ofNat (T[I].toNat ^^^ k)=c:=⟨_,rfl⟩
 have hcN:c.toNat=T[I].toNat ^^^ k:=by rw [← hc,UInt8.toNat_ofNat'];exact Nat.mod_eq_of_lt hx1
 have hcT:c≠T[I]:=fun e=>hx2 (by rw [← hcN,e])
 have hIS1:I+1≤SS.length:=by omega
 have hset:(SS.map fun c=>AV.int .u8 (c.toNat:Int)).take I++(AV.int .u8 (c.toNat:Int)::(SS.map fun c=>AV.int .u8 (c.toNat:Int)).drop (I+1))=(SS.set I c).map fun c=>AV.int .u8 (c.toNat:Int):=by
  rw [List.set_eq_take_append_cons_drop,if_pos hIS]
  simp
 have hab:∀ l:List UInt8,Uv (l.map fun c=>AV.int .u8 (c.toNat:Int))=some l:=fun l=>Ye5 l
 have hms:(SS.map fun c=>AV.int .u8 (c.toNat:Int)).set I (AV.int .u8 (c.toNat:Int))=(SS.set I c).map fun c=>AV.int .u8 (c.toNat:Int):=by rw [List.map_set]
 have htk:((SS.set I c).map fun c=>AV.int .u8 (c.toNat:Int)).take SS.length=(SS.set I c).map fun c=>AV.int .u8 (c.toNat:Int):=List.take_of_length_le (by simp)
 have hmI:=Vfp (SS.set I c)
 have hm:=hm1 I (by omega) c hcT
 have cM:=Ve4 (SS.set I c)
 rw [hmI.1,hmI.2.1,hmI.2.2,hm] at cM
 have cS:=Wc9 T
 rw [hse] at cS
 have cO:=Ub0 SS
 rw [hop] at cO
 have hN2':¬ (N:Int)<2:=by omega
 have hle:¬ (SS.length:Int)≤(N:Int):=by omega
 refine Was (n:=9) (ThC l2 B r S t men s' σ) h3 ?_
 unfold ThC
 rw [hE,hS0,hFF,hX1,hX8,hX10]
 dsimp only [Tryz.f5,Option.getD]
 simp [-Xa,Za0,Va0,hl3,k1,k2,k7,k8,k10,k12]
 refine cP.use ?_
 simp [-Xa,hl3,k1,k2,k7,k8,k10,k12]
 refine cS.use ?_
 simp [-Xa,hl3,k1,k2,k7,k8,k10,k12,hN,hN2',hle]
 have hN1:¬ (N:Int) - 1=0:=by omega
 have hxor:IntKind.u8.wrap (((((T[I].toNat:Nat):Int) % 2^IntKind.u8.bits).toNat ^^^ ((k:Int) % 2^IntKind.u8.bits).toNat:Nat):Int)=(c.toNat:Int):=by
  have e1:(((T[I].toNat:Nat):Int) % 2^IntKind.u8.bits).toNat=T[I].toNat:=by
   show (((T[I].toNat:Nat):Int) % 256).toNat=_
   omega
  have e2:((k:Int) % 2^IntKind.u8.bits).toNat=k:=by
   show ((k:Int) % 256).toNat=_
   omega
  rw [e1,e2,hcN]
  simp only [IntKind.wrap,IntKind.bits,IntKind.signed]
  simp
  omega
 simp [-Xa,hx3,hw1,hN1,hIm,hIS,hIS',hSI,hsh,hxor,hset,hIS1,hab,hms,htk,-List.map_set,-List.map_take,hl3,k1,k2,k7,k8,k10,k12]
 refine cM.use ?_
 simp [-Xa,hl3,k1,k2,k7,k8,k10,k12]
 refine cO.use ?_
 simp [-Xa,hl3,k1,k2,k7,k8,k10,k12]
 refine cR.use ?_
 simp [-Xa,hl3,k1,k2,k7,k8,k10,k12]
 exact hgo _
end Ab

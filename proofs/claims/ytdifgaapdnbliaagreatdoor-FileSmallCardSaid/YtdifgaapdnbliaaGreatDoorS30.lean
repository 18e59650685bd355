/-
  Texts packed for a claim.
-/
import Derived.Test.YtdifgaapdnbliaaGreatDoorS00
import Derived.Test.YtdifgaapdnbliaaGreatDoorS11
import Derived.Test.YtdifgaapdnbliaaGreatDoorS17
import Derived.Test.YtdifgaapdnbliaaGreatDoorS24
import Derived.Test.YtdifgaapdnbliaaGreatDoorS28
import Derived.Test.YtdifgaapdnbliaaGreatDoorS22
import Derived.Test.YtdifgaapdnbliaaGreatDoorS29
import Derived.Test.YtdifgaapdnbliaaGreatDoorS23
set_option linter.all false
namespace Ab
open Go Go.RowKit Go.Proofs
def Xm (ws:List (List UInt8)) (xs:List AV):Prop:=xs=strs ws
def Xar (ws:List (List UInt8)) (xs:List AV):Prop:=xs.length=ws.length
theorem Uu {τ:Za} {q:Nat} (ws:List (List UInt8)) (h:τ[q]? = some (.cells (strs ws))):Fz 0 τ (.arr 1 q 0 ws.length) (Zb ws):=by
 have hl:ws.length=(strs ws).length:=by simp [strs]
 rw [hl]
 refine Fz.arr 1 q 0 (strs ws) (strs ws) (fun i _=>(strs ws).getD i .any) (Nat.zero_le _) h (fun i x hx=>?_) (fun i x hx j y hy=>?_)
 ·have hx':=hx
  simp only [strs,Qzp,Qzm] at hx
  obtain ⟨s,hs,rfl⟩:=hx
  refine ⟨rfl,fun j y hy=>?_⟩
  match j,hy with
  | 0,hy =>
   simp [AV.cells] at hy;subst hy
   refine ⟨rfl,?_⟩
   rw [Nat.zero_add,Nat.mul_one,Nat.add_zero,List.getD_eq_getElem?_getD,hx']
   rfl
  | j+1,hy=>simp [AV.cells] at hy
 ·have hx':=hx
  simp only [strs,Qzp,Qzm] at hx
  obtain ⟨s,hs,rfl⟩:=hx
  match j,hy with
  | 0,hy =>
   simp [AV.cells] at hy;subst hy
   rw [List.getD_eq_getElem?_getD,hx']
   exact .str _
  | j+1,hy=>simp [AV.cells] at hy
theorem Us {σ g:Za} {q:Nat} (h:σ.length≤q) (o:AObj):(σ++g).set q o=σ++g.set (q - σ.length) o:=by
 rw [List.set_append_right _ _ h]
end Ab
namespace Ab
open Go Go.RowKit Go.Proofs
attribute [local irreducible] aws awp aw1 Og Om Oc Oa Ogd Ov Ot awd Ub awh Xc Ogh Ohd awl Ogl Ohl awv Ogv Ohv Zc Wc QFn Zd QRo QBe ACode AYield
structure PlaceAtV (l:List PV) (t:Oyez.Place) (i:Nat):Prop where
 le:i≤l.length
 lo:∀ (m:Nat) (h:m<l.length),m<i→l[m].1.lt t=true
 hi:∀ (m:Nat) (h:m<l.length),i≤m→l[m].1.lt t=false
set_option maxHeartbeats 2000000 in
theorem Wdr {r:Nat} (l:List PV) (t:Oyez.Place) (hs:∀ x∈l,x.2.one=true) (hsr:Oyez.Sorted (l.map Prod.fst)) (hn:l.length≤2^20) (σ:Za) (hr:σ[r]? = some (.cells (We l))) :
  ACalls Tryz.prog 180 [.arr 3 r 0 l.length,Xd t,.fn (.func 181) [] []] σ fun v σ'=>σ'=σ∧∃ (i:Nat) (B:Bool),v=.tup [.int .i64 i,.bool B]∧PlaceAtV l t i:=by
 refine ACalls.forget ?_
 refine Ua Tryz.func180 rfl (Wa Tryz.func180 (by decide) rfl) ?_
 have hgs:∀ c,(σ++[c])[r]? = some (.cells (We l)):=fun c=>Vf hr
 have hlen:=Zt l
 have hsrt:∀ (a b:Nat) (hb:b<l.length),(h:a<b)→(l[a]'(by omega)).1.lt l[b].1=true:=by
  intro a b hb h
  unfold Oyez.Sorted at hsr
  rw [List.pairwise_map] at hsr
  exact List.pairwise_iff_getElem.1 hsr a b (by omega) hb h
 obtain ⟨n,hln⟩:∃ n,l.length=n:=⟨_,rfl⟩
 rw [hln] at hn hlen ⊢
 simp [Tryz.ntmps180]
 refine Yc (fun env σ'=>∃ (u:List AV) (i j:Nat),env={ t:=u }∧u.length=49∧tg u 0=.arr 3 r 0 n∧tg u 2=.fn (.func 181) [] []∧tg u 4=.ptr σ.length 0∧tg u 8=.int .i64 n∧tg u 9=.int .i64 i∧tg u 10=.int .i64 j∧σ'=σ++[.cells [.int .i64 t.kind,.int .i64 t.number]]∧i≤j∧j≤n ∧
   (∀ (m:Nat) (h:m<l.length),m<i→l[m].1.lt t=true)∧(∀ (m:Nat) (h:m<l.length),j≤m→l[m].1.lt t=false))
  (fun env _=>match tg env.t 9,tg env.t 10 with | .int _ i,.int _ j=>j.toNat - i.toNat | _,_=>0) ⟨_,0,n,rfl,by simp,by simp,by simp,by simp,by simp,by simp,by simp,by simp,by omega,by omega,fun m h h2=>by omega,fun m h h2=>by omega⟩ ?_
 rintro env _ ⟨u,i,j,rfl,hl,g0,g2,g4,g8,g9,g10,rfl,hij,hjn,hlo,hhi⟩
 rcases Qzn i j with hlt | hge
 ·obtain ⟨h,hh⟩:∃ h,(i+j) / 2=h:=⟨_,rfl⟩
  have h1:i≤h:=by omega
  have h2:h<j:=by omega
  have hhl:h<l.length:=by omega
  have hhn:h<n:=by omega
  have hhn':(h:Int)<(n:Int):=by omega
  have hlt':(i:Int)<(j:Int):=by omega
  have hx1:=w64 (n:=(i:Int)+(j:Int)) (by omega) (by omega)
  have hu:=Xdd (n:=(i:Int)+(j:Int)) (by omega) (by omega)
  have hfd:((i:Int)+(j:Int)).fdiv (2^min 1 IntKind.u64.bits)=(h:Int):=by
   show ((i:Int)+(j:Int)).fdiv 2=(h:Int)
   rw [Int.fdiv_eq_ediv_of_nonneg _ (by omega)]
   omega
  have hx2:=w64 (n:=(h:Int)) (by omega) (by omega)
  have hx3:=w64 (n:=(h:Int)+1) (by omega) (by omega)
  have hsb:=Yaf l hhl
  have hb:h*3+3≤n*3:=by omega
  simp [-AV.one,hl,g0,g2,g4,g8,g9,g10,hlt',hx1,hu,hfd,hx2]
  refine Zg mixed (by kernel_rfl) ?_
  simp [-AV.one,hl,g0,g2,g4,g8,g9,g10,hgs,hhn,hhn',hlen,hsb,hb]
  refine Vd (Wbw l[h].1 t l[h].2 (hs _ (List.getElem_mem hhl))) ?_
  by_cases ho:Vl l[h].1 t<0
  ·have hp:=(Uaq _ _).1 ho
   simp [-AV.one,hl,g0,g2,g4,g8,g9,g10,ho,hx3]
   refine ⟨⟨h+1,by simp,j,rfl,by omega,by omega,fun m hm hmi=>?_,hhi⟩,by omega⟩
   rcases Qzn m h with h3 | h3
   ·exact Oyez.Place.lt_trans (hsrt m h hhl h3) hp
   ·obtain rfl:m=h:=by omega
    exact hp
  ·have hp:l[h].1.lt t=false:=by
    cases hq:l[h].1.lt t with
    | false=>rfl
    | true=>exact absurd ((Uaq _ _).2 hq) ho
   simp [-AV.one,hl,g0,g2,g4,g8,g9,g10,ho]
   refine ⟨⟨i,rfl,h,rfl,by omega,by omega,hlo,fun m hm hmi=>?_⟩,by omega⟩
   rcases Qzn h m with h3 | h3
   ·cases hq:l[m].1.lt t with
    | false=>rfl
    | true =>
     have:=Oyez.Place.lt_trans (hsrt h m hm h3) hq
     rw [hp] at this
     cases this
   ·obtain rfl:m=h:=by omega
    exact hp
 ·obtain rfl:i=j:=by omega
  have hP:PlaceAtV l t i:=⟨by omega,hlo,hhi⟩
  simp [-AV.one,hl,g0,g2,g4,g8,g9,g10]
  refine Zg mixed (by kernel_rfl) ?_
  by_cases hin:i<n
  ·have hin':(i:Int)<(n:Int):=by omega
   have hil:i<l.length:=by omega
   have hsb:=Yaf l hil
   have hb:i*3+3≤n*3:=by omega
   simp [-AV.one,hl,g0,g2,g4,g8,g9,g10,hgs,hin,hin',hlen,hsb,hb]
   refine Vd (Wbw l[i].1 t l[i].2 (hs _ (List.getElem_mem hil))) ?_
   simp [-AV.one,hl,g0,g2,g4,g8,g9,g10]
   exact ⟨_,Fz.tup2 (.int _ _) (.bool _),i,by by_cases h:Vl l[i].1 t=0<;>simp [h],hP⟩
  ·have hin':¬ (i:Int)<(n:Int):=by omega
   simp [-AV.one,hl,g0,g2,g4,g8,g9,g10,hin,hin']
   exact ⟨_,Fz.tup2 (.int _ _) (.bool _),i,.inl rfl,hP⟩
theorem Vdj (l:List PV) (i:Nat) (w:AV) (h:i<l.length):List.take (i*3+2) (We l)++w::List.drop (i*3+3) (We l)=We (l.set i (l[i].1,w)):=by
 have hl:=Zt l
 have h1:List.take (i*3+2) (We l)=List.take (i*3) (We l)++[.int .i64 l[i].1.kind,.int .i64 l[i].1.number]:=by
  rw [List.take_add]
  congr 1
  have:=Yaf l h
  have h2:=congrArg (List.take 2) this
  rw [List.take_take] at h2
  simpa using h2
 rw [h1,← Vbw l i (l[i].1,w) h]
 simp
def RWd (n:Nat) (g:Za) (o:Option Nat) (w:AV) (ws:List (List UInt8)):Prop:=(ws=[]∧w=.pl 1 [])∨∃ j,w=.arr 1 (n+j) 0 ws.length∧g[j]? = some (.cells (strs ws))∧o≠some j
def RX (n:Nat) (g:Za) (o:Option Nat) (F:List Oyez.Rec) (X:List PV):Prop:=X.length=F.length∧∀ (i:Nat) (r:Oyez.Rec),F[i]? = some r→∃ w,X[i]? = some (r.place,w)∧RWd n g o w r.words
structure RC (σ g:Za) (F:List Oyez.Rec) (v:AV):Prop where
 ex:∃ (j:Nat) (X:List PV),v=.arr 3 (σ.length+j) 0 X.length∧g[j]? = some (.cells (We X))∧RX σ.length g (some j) F X
set_option maxHeartbeats 4000000 in
theorem Zbn (f:List Oyez.Rec) (hl:f.length≤2^30) (hw:∀ r∈f,r.words.length≤2^40) (v:AV) (σ:Za) (hv:∀ g,Xi 3 v (σ++g)=some (Zh f,f.length)) (hvl:∀ S,Vb Tryz.prog 23 v S=some (.int .i64 f.length)) :
  ACalls Tryz.prog 141 [v] σ fun v' σ'=>∃ g,σ'=σ++g∧RC σ g f v':=by
 refine Ua Tryz.func141 rfl (Wa Tryz.func141 (by decide) rfl) ?_
 have h1:(f.length:Int)*40≤281474976710656:=by omega
 have h2:(f.length:Int)≤9223372036854775807:=by omega
 have hal:∀ S:Za,Vb Tryz.prog 23 (.arr 3 σ.length 0 f.length) S=some (.int .i64 f.length):=fun S=>by simp
 have hzl:((List.replicate f.length [AV.int .i64 0,.int .i64 0,.nils]).flatten).length=f.length*3:=by simp
 have hcopy:Ul Tryz.prog #[23,23] (.arr 3 σ.length 0 f.length) v (σ++[AObj.cells (List.replicate f.length [AV.int .i64 0,.int .i64 0,.nils]).flatten])=some (.int .i64 f.length,σ++[AObj.cells (Zh f)]):=by
  rw [Ybg (off:=0) (A:=(List.replicate f.length [AV.int .i64 0,.int .i64 0,.nils]).flatten) (news:=Zh f) (m:=f.length) (by simp) (hv _) (Nat.le_refl _) (by rw [hzl];omega)]
  have:wr (List.replicate f.length [AV.int .i64 0,.int .i64 0,.nils]).flatten (0*3) (Zh f)=Zh f:=by
   unfold wr
   rw [Nat.zero_mul,List.take_zero,List.nil_append,List.drop_eq_nil_of_le (by rw [hzl,Xa1];omega),List.append_nil]
  rw [this]
  simp
 have hcr:Zh f=We (f.map fun r=>(r.place,Zb r.words)):=by
  unfold Zh We
  rw [List.flatMap_map]
  rfl
 rw [hcr] at hcopy
 simp [-Vb,-Ul,-Ur,-Xi,Tryz.ntmps141,hvl,hal,hcopy,h1,h2]
 refine Yc (fun env σ'=>∃ (u:List AV) (i:Nat) (X:List PV) (g:Za),env={ t:=u }∧u.length=28∧tg u 3=.arr 3 σ.length 0 f.length∧tg u 12=.int .i64 f.length∧tg u 13=.int .i64 i∧σ'=σ++.cells (We X)::g∧i≤f.length∧X.length=f.length ∧
   (∀ (m:Nat) (r:Oyez.Rec),f[m]? = some r→m<i→∃ w,X[m]? = some (r.place,w)∧RWd (σ.length+1) g none w r.words)∧(∀ (m:Nat) (r:Oyez.Rec),f[m]? = some r→i≤m→X[m]? = some (r.place,Zb r.words)))
  (fun env _=>match tg env.t 13 with | .int _ i=>f.length - i.toNat | _=>0) ⟨_,0,f.map fun r=>(r.place,Zb r.words),[],rfl,by simp,by simp,by simp,by simp,by simp,by omega,by simp,fun m r _ h=>by omega,fun m r h _=>by rw [Qzp,h];rfl⟩ ?_
 rintro env _ ⟨u,i,X,g,rfl,hl2,g3,g12,g13,rfl,hi,hXl,hlo,hhi⟩
 rcases Qzn i f.length with hlt | hge
 ·have hlt':(i:Int)<(f.length:Int):=by omega
  have hx:=w64 (n:=(i:Int)+1) (by omega) (by omega)
  have hlen:=Zt X
  rw [hXl] at hlen
  have hiX:i<X.length:=by omega
  have hxi:=hhi i f[i] (Qze hlt) (Nat.le_refl _)
  rw [Qze hiX] at hxi
  have hxi:=Option.some.inj hxi
  have hb:i*3+2+1≤f.length*3:=by omega
  have hcell:(We X)[i*3+2]? = some (Zb f[i].words):=by
   have h1:=Yaf X hiX
   have h2:=congrArg (fun l=>l[2]?) h1
   simp only [List.getElem?_take_of_lt (show 2<3 by omega),List.getElem?_drop] at h2
   rw [h2,hxi]
   rfl
  have hput:=fun w=>Vdj X i w hiX
  have hwi:=hw _ (List.getElem_mem hlt)
  simp [hl2,g3,g12,g13,hlt',hlt,hlen,hb,hcell]
  refine StA.of ((Xx f[i].words hwi _).mono ?_)
  rintro _ _ ⟨rfl,rfl⟩
  have more:∀ (Y:Za) (w:AV) (ws:List (List UInt8)),RWd (σ.length+1) g none w ws→RWd (σ.length+1) (g++Y) none w ws:=by
   intro Y w ws h
   rcases h with h | ⟨j,h1,h2,h3⟩
   ·exact .inl h
   ·exact .inr ⟨j,h1,Vf h2,h3⟩
  have fin:∀ (Y:Za) (w:AV),RWd (σ.length+1) (g++Y) none w f[i].words→(∀ (m:Nat) (r:Oyez.Rec),f[m]? = some r→m<i+1→∃ w',(X.set i (X[i].1,w))[m]? = some (r.place,w')∧RWd (σ.length+1) (g++Y) none w' r.words)∧(∀ (m:Nat) (r:Oyez.Rec),f[m]? = some r→i+1≤m→(X.set i (X[i].1,w))[m]? = some (r.place,Zb r.words)):=by
   intro Y w hw'
   refine ⟨fun m r hm hmi=>?_,fun m r hm hmi=>?_⟩
   ·by_cases e:m=i
    ·subst e
     rw [Qze hlt] at hm
     obtain rfl:=Option.some.inj hm
     exact ⟨w,by rw [List.getElem?_set_self hiX,hxi],hw'⟩
    ·rw [List.getElem?_set_ne (Ne.symm e)]
     obtain ⟨w',a,b⟩:=hlo m r hm (by omega)
     exact ⟨w',a,more Y _ _ b⟩
   ·rw [List.getElem?_set_ne (by omega)]
    exact hhi m r hm (by omega)
  by_cases h0:f[i].words=[]
  ·have hp:=hput (.pl 1 [])
   obtain ⟨f1,f2⟩:=fin [] (.pl 1 []) (.inl ⟨h0,rfl⟩)
   rw [List.append_nil] at f1
   generalize X.set i (X[i].1,.pl 1 [])=X2 at hp f1 f2
   have hX2:X2.length=f.length:=by
    have:=congrArg List.length hp
    rw [Zt] at this
    simp at this
    omega
   simp [hl2,g3,g12,g13,hlt',hlt,hlen,hb,hx,Xe,Uc,h0,hp]
   exact ⟨⟨i+1,by simp,X2,g,⟨rfl,rfl⟩,by omega,hX2,f1,f2⟩,by omega⟩
  ·have hp:=hput (.arr 1 (σ.length+(g.length+1)) 0 f[i].words.length)
   obtain ⟨f1,f2⟩:=fin [.cells (strs f[i].words)] (.arr 1 (σ.length+(g.length+1)) 0 f[i].words.length) (.inr ⟨g.length,by rw [show σ.length+(g.length+1)=σ.length+1+g.length from by omega],by simp,by simp⟩)
   generalize X.set i (X[i].1,.arr 1 (σ.length+(g.length+1)) 0 f[i].words.length)=X2 at hp f1 f2
   have hX2:X2.length=f.length:=by
    have:=congrArg List.length hp
    rw [Zt] at this
    simp at this
    omega
   simp [hl2,g3,g12,g13,hlt',hlt,hlen,hb,hx,Xe,Uc,h0,hp,Nat.add_assoc]
   exact ⟨⟨i+1,by simp,X2,_,⟨rfl,rfl⟩,by omega,hX2,f1,f2⟩,by omega⟩
 ·have hge':¬ (i:Int)<(f.length:Int):=by omega
  simp [hl2,g3,g12,g13,hge']
  refine ⟨0,X,by rw [hXl];rfl,rfl,hXl,fun m r hm=>?_⟩
  have hml:=(Qzs.1 hm).1
  obtain ⟨w,h1,h2⟩:=hlo m r hm (by omega)
  refine ⟨w,h1,?_⟩
  rcases h2 with h2 | ⟨j,a,b,_⟩
  ·exact .inl h2
  ·exact .inr ⟨j+1,by rw [a,show σ.length+1+j=σ.length+(j+1) from by omega],b,by simp⟩
end Ab
namespace Ab
open Go Go.RowKit Go.Proofs
theorem Ybo (n:Nat):∀ (f:List Oyez.Rec) (qs:List Nat),qs.length=(wne f).length→∀ (i:Nat) (r:Oyez.Rec),f[i]? = some r →
  ∃ w,(Vh n f qs)[i]? = some (.agg [.int .i64 r.kind,.int .i64 r.number,w])∧((r.words=[]∧w=.pl 1 [])∨∃ j q:Nat,qs[j]? = some q∧(wne f)[j]? = some r.words∧w=.arr 1 (n+q) 0 r.words.length)
 | [],qs,_,i,r,h=>by simp at h
 | x::t,qs,hl,i,r,h=>by
  rw [Yax] at hl ⊢
  by_cases hx:x.words=[]
  ·rw [if_pos hx] at hl ⊢
   rw [Vh,if_pos hx]
   cases i with
   | zero=>simp at h;subst h;exact ⟨_,rfl,.inl ⟨hx,rfl⟩⟩
   | succ i=>exact Ybo n t qs hl i r (by simpa using h)
  ·rw [if_neg hx] at hl ⊢
   cases qs with
   | nil=>simp at hl
   | cons q0 qs =>
    rw [Vh,if_neg hx]
    simp only [List.headD_cons,List.tail_cons]
    cases i with
    | zero=>simp at h;subst h;exact ⟨_,rfl,.inr ⟨0,q0,rfl,rfl,rfl⟩⟩
    | succ i =>
     obtain ⟨w,h1,h2⟩:=Ybo n t qs (by simpa using hl) i r (by simpa using h)
     refine ⟨w,by simpa using h1,?_⟩
     rcases h2 with h2 | ⟨j,q,g1,g2,g3⟩
     ·exact .inl h2
     ·exact .inr ⟨j+1,q,by simpa using g1,by simpa using g2,g3⟩
structure OwnIn (X:List (List UInt8)→List AV→Prop) (τ:Za) (lo:Nat) (f:List Oyez.Rec) (v:AV):Prop where
 row:(f=[]∧v=.nils)∨(f≠[]∧v=.arr 3 lo 0 f.length∧∃ cs,τ[lo]? = some (.cells cs)∧cs.length=f.length*3 ∧
  ∀ (i:Nat) (r:Oyez.Rec),f[i]? = some r→∃ w,List.take 3 (List.drop (i*3) cs)=[.int .i64 r.kind,.int .i64 r.number,w] ∧
   ((r.words=[]∧w=.pl 1 [])∨∃ (q:Nat) (xs:List AV),lo<q∧q<lo+1+(wne f).length∧w=.arr 1 q 0 r.words.length∧τ[q]? = some (.cells xs)∧X r.words xs))
theorem Yb5 (pre post:Za) (f:List Oyez.Rec):OwnIn Xm (pre++(Ye pre.length 0 f++post)) pre.length f (Yi pre.length 0 f):=by
 refine ⟨?_⟩
 by_cases hf:f=[]
 ·exact .inl ⟨hf,by rw [Yi,if_pos hf]⟩
 ·refine .inr ⟨hf,by rw [Yi,if_neg hf,Nat.add_zero],_,by rw [Qzr (Nat.le_refl _),Nat.sub_self,Ye,if_neg hf,List.cons_append,List.getElem?_cons_zero],?_,fun i r hr=>?_⟩
  ·rw [Wae (k:=3) _ fun x hx=>(Za2 _ _ _ x hx).1,Xay]
  ·have hi:=(Qzs.1 hr).1
   obtain ⟨w,h1,h2⟩:=Ybo pre.length f (List.range' (0+1) (wne f).length) (by simp) i r hr
   refine ⟨w,?_,?_⟩
   ·apply List.ext_getElem?
    intro j
    rcases Qzn j 3 with hj | hj
    ·rw [List.getElem?_take_of_lt hj,List.getElem?_drop,flat_get (k:=3) _ (fun x hx=>(Za2 _ _ _ x hx).1) (by decide),show (i*3+j) / 3=i by omega,show (i*3+j) % 3=j by omega,h1]
     rfl
    ·rw [List.getElem?_eq_none (by simp;omega),List.getElem?_eq_none (by simpa using hj)]
   ·rcases h2 with h2 | ⟨j,q,g1,g2,g3⟩
    ·exact .inl h2
    ·have hj:j<(wne f).length:=(Qzs.1 g2).1
     rw [List.getElem?_range' hj] at g1
     simp at g1
     subst g1
     refine .inr ⟨pre.length+(1+j),strs r.words,by omega,by omega,g3,?_,rfl⟩
     rw [Qzr (by omega),show pre.length+(1+j) - pre.length=j+1 by omega,Ye,if_neg hf,List.cons_append,List.getElem?_cons_succ,Qzl (by simpa using hj),Qzp,g2]
     rfl
theorem OwnIn.many {τ:Za} {lo:Nat} {f:List Oyez.Rec} {v:AV} (h:OwnIn Xm τ lo f v):OwnIn Xar τ lo f v:=by
 refine ⟨?_⟩
 rcases h.row with h | ⟨h1,h2,cs,h3,h4,h5⟩
 ·exact .inl h
 ·refine .inr ⟨h1,h2,cs,h3,h4,fun i r hr=>?_⟩
  obtain ⟨w,g1,g2⟩:=h5 i r hr
  refine ⟨w,g1,?_⟩
  rcases g2 with g2 | ⟨q,xs,a1,a2,a3,a4,a5⟩
  ·exact .inl g2
  ·exact .inr ⟨q,xs,a1,a2,a3,a4,by rw [Xar,show xs=strs r.words from a5];simp [strs]⟩
theorem OwnIn.fz {τ:Za} {lo:Nat} {f:List Oyez.Rec} {v:AV} (h:OwnIn Xm τ lo f v):Fz 0 τ v (Xa f):=by
 rcases h.row with ⟨rfl,rfl⟩ | ⟨h1,rfl,cs,h3,h4,h5⟩
 ·exact .nils_pl 3
 ·have hl:f.length=(f.map Yd).length:=by simp
  rw [hl]
  have hcell:∀ (i:Nat) (r:Oyez.Rec),f[i]? = some r→∃ w,(∀ j,j<3→cs[i*3+j]? = [AV.int .i64 r.kind,.int .i64 r.number,w][j]?)∧Fz 0 τ w (Zb r.words):=by
   intro i r hr
   obtain ⟨w,g1,g2⟩:=h5 i r hr
   refine ⟨w,fun j hj=>?_,?_⟩
   ·rw [← g1,List.getElem?_take_of_lt hj,List.getElem?_drop]
   ·rcases g2 with ⟨g2,rfl⟩ | ⟨q,xs,a1,a2,rfl,a4,a5⟩
    ·rw [g2];exact .pl0 1 1
    ·rw [show xs=strs r.words from a5] at a4
     exact Uu _ a4
  refine Fz.arr 3 lo 0 cs (f.map Yd) (fun i j=>(cs[i*3+j]?).getD .any) (Nat.zero_le _) h3 (fun i x hx=>?_) (fun i x hx j y hy=>?_)
  ·rw [Qzp,Qzm] at hx
   obtain ⟨r,hr,rfl⟩:=hx
   obtain ⟨w,g1,g2⟩:=hcell i r hr
   refine ⟨rfl,fun j y hy=>?_⟩
   have hj:j<3:=(Qzs.1 hy).1
   refine ⟨?_,?_⟩
   ·match j,hj,hy with
    | 0,_,hy=>simp [AV.cells] at hy;subst hy;rfl
    | 1,_,hy=>simp [AV.cells] at hy;subst hy;rfl
    | 2,_,hy=>simp [AV.cells] at hy;subst hy;rfl
   ·have:=g1 j hj
    rw [Nat.zero_add,this]
    match j,hj with
    | 0,_=>rfl
    | 1,_=>rfl
    | 2,_=>rfl
  ·rw [Qzp,Qzm] at hx
   obtain ⟨r,hr,rfl⟩:=hx
   obtain ⟨w,g1,g2⟩:=hcell i r hr
   have hj:j<3:=(Qzs.1 hy).1
   rw [g1 j hj]
   match j,hj,hy with
   | 0,_,hy=>simp [AV.cells] at hy;subst hy;exact .int _ _
   | 1,_,hy=>simp [AV.cells] at hy;subst hy;exact .int _ _
   | 2,_,hy=>simp [AV.cells] at hy;subst hy;exact g2
structure Keep (lo hi:Nat) (τ τ':Za):Prop where
 out:∀ r,r<τ.length→¬ (lo<r∧r<hi)→τ'[r]? = τ[r]?
 cells:∀ (r:Nat) (cs:List AV),τ[r]? = some (.cells cs)→∃ cs',τ'[r]? = some (.cells cs')∧cs'.length=cs.length
 len:τ.length≤τ'.length
theorem Keep.refl (lo hi:Nat) (τ:Za):Keep lo hi τ τ:=⟨fun _ _ _=>rfl,fun r cs h=>⟨cs,h,rfl⟩,Nat.le_refl _⟩
theorem Keep.app {lo hi:Nat} {τ τ':Za} (h:Keep lo hi τ τ') (g:Za):Keep lo hi τ (τ'++g):=by
 have hl:=h.len
 refine ⟨fun r h1 h2=>?_,fun r cs h1=>?_,by rw [List.length_append];omega⟩
 ·rw [Qzl (by omega)];exact h.out r h1 h2
 ·obtain ⟨cs',h2,h3⟩:=h.cells r cs h1
  have:=(Qzs.1 h2).1
  exact ⟨cs',by rw [Qzl this];exact h2,h3⟩
theorem Keep.set {lo hi:Nat} {τ τ':Za} (h:Keep lo hi τ τ') {q:Nat} {cs cs':List AV} (h1:lo<q) (h2:q<hi) (hq:τ'[q]? = some (.cells cs)) (hl:cs'.length=cs.length):Keep lo hi τ (τ'.set q (.cells cs')):=by
 refine ⟨fun r g1 g2=>?_,fun r ds g1=>?_,by rw [List.length_set];exact h.len⟩
 ·rw [List.getElem?_set_ne (by omega)];exact h.out r g1 g2
 ·obtain ⟨ds',g2,g3⟩:=h.cells r ds g1
  by_cases e:q=r
  ·subst e
   rw [hq] at g2
   obtain rfl:cs=ds':=by simpa using g2
   exact ⟨cs',List.getElem?_set_self (Qzs.1 hq).1,by omega⟩
  ·exact ⟨ds',by rw [List.getElem?_set_ne e];exact g2,g3⟩
theorem Keep.own {lo hi:Nat} {τ τ':Za} (h:Keep lo hi τ τ') {f:List Oyez.Rec} {v:AV} (ho:OwnIn Xar τ lo f v):OwnIn Xar τ' lo f v:=by
 refine ⟨?_⟩
 rcases ho.row with h1 | ⟨h1,h2,cs,h3,h4,h5⟩
 ·exact .inl h1
 ·have hlo:=(Qzs.1 h3).1
  refine .inr ⟨h1,h2,cs,by rw [h.out lo hlo (by omega)];exact h3,h4,fun i r hr=>?_⟩
  obtain ⟨w,g1,g2⟩:=h5 i r hr
  refine ⟨w,g1,?_⟩
  rcases g2 with g2 | ⟨q,xs,a1,a2,a3,a4,a5⟩
  ·exact .inl g2
  ·obtain ⟨xs',b1,b2⟩:=h.cells q xs a4
   exact .inr ⟨q,xs',a1,a2,a3,b1,b2.trans a5⟩
theorem Keep.own2 {X:List (List UInt8)→List AV→Prop} {lo hi lo2:Nat} {τ τ':Za} (h:Keep lo hi τ τ') (hh:hi≤lo2) {f:List Oyez.Rec} {v:AV} (ho:OwnIn X τ lo2 f v):OwnIn X τ' lo2 f v:=by
 refine ⟨?_⟩
 rcases ho.row with h1 | ⟨h1,h2,cs,h3,h4,h5⟩
 ·exact .inl h1
 ·have hlo:=(Qzs.1 h3).1
  refine .inr ⟨h1,h2,cs,by rw [h.out lo2 hlo (by omega)];exact h3,h4,fun i r hr=>?_⟩
  obtain ⟨w,g1,g2⟩:=h5 i r hr
  refine ⟨w,g1,?_⟩
  rcases g2 with g2 | ⟨q,xs,a1,a2,a3,a4,a5⟩
  ·exact .inl g2
  ·exact .inr ⟨q,xs,a1,a2,a3,by rw [h.out q (Qzs.1 a4).1 (by omega)];exact a4,a5⟩
theorem OwnIn.more {X:List (List UInt8)→List AV→Prop} {τ:Za} {lo:Nat} {f:List Oyez.Rec} {v:AV} (h:OwnIn X τ lo f v) (g:Za):OwnIn X (τ++g) lo f v:=by
 refine ⟨?_⟩
 rcases h.row with h1 | ⟨h1,h2,cs,h3,h4,h5⟩
 ·exact .inl h1
 ·refine .inr ⟨h1,h2,cs,Vf h3,h4,fun i r hr=>?_⟩
  obtain ⟨w,g1,g2⟩:=h5 i r hr
  refine ⟨w,g1,?_⟩
  rcases g2 with g2 | ⟨q,xs,a1,a2,a3,a4,a5⟩
  ·exact .inl g2
  ·exact .inr ⟨q,xs,a1,a2,a3,Vf a4,a5⟩
theorem Xcf (n:Nat) (f:List Oyez.Rec):(Ye n 0 f).length=if f=[] then 0 else (wne f).length+1:=Yb1 n 0 f
end Ab
namespace Oyez
theorem joinTo_all {base a b:List Rec} (hx:check base=0) (ha:check a=0) (hb:check b=0) (s:List Bool):joinTo base a b s 5 0=join base a b s:=by
 unfold joinTo
 rw [upTo_all]
 exact Vd4 (check_zero hx).range (check_zero ha).range (check_zero hb).range s
end Oyez

/-
  Texts packed for a claim.
-/
import Derived.Test.YtcoikmapjepdjaaGreatDoorO00
import Derived.Test.YtcoikmapjepdjaaGreatDoorO36
import Derived.Test.YtcoikmapjepdjaaGreatDoorO35
set_option linter.all false
namespace Ab
open Go Go.RowKit Go.Proofs
theorem Ua8 (t:Tab) (s:Nat):∀ m,(Vk t s m).length≤m
 | 0=>by simp [Vk]
 | m+1=>by
  have:=Ua8 t s m
  rw [Vk,List.length_append]
  split<;>simp<;>omega
theorem Ubd (t:Tab) (men:Nat):∀ s,(Wd t men s).length≤s*men
 | 0=>by simp [Wd]
 | s+1=>by
  have:=Ubd t men s
  have:=Ua8 t s men
  rw [Wd,List.length_append,Nat.add_mul]
  omega
theorem Zhl (E:List Ent) (n:Int):(Zn E n).length≤E.length:=by
 unfold Zn
 rw [List.length_map]
 exact List.length_filter_le _ _
structure ShAcc (b g:Za) (K:Nat) (vs:List AV) (F:Nat→List Int) (os:Nat→Option Nat):Prop where
 len:vs.length=K
 acc:∀ n,n<K→∃ v,vs[n]? = some v∧Acc b g 1 v (Ya (F n)) (os n)
 dis:∀ x y,x<K→y<K→x≠y→∀ j,os x=some j→os y≠some j
theorem ShAcc.base {b b' g:Za} {K:Nat} {vs:List AV} {F:Nat→List Int} {os:Nat→Option Nat} (h:ShAcc b g K vs F os) (hb:b'.length=b.length):ShAcc b' g K vs F os :=
 ⟨h.len,fun n hn=>by obtain ⟨v,h1,h2⟩:=h.acc n hn;exact ⟨v,h1,h2.base hb.symm⟩,h.dis⟩
theorem ShAcc.congr {b g:Za} {K:Nat} {vs:List AV} {F F':Nat→List Int} {os:Nat→Option Nat} (h:ShAcc b g K vs F os) (hF:∀ n,n<K→F' n=F n):ShAcc b g K vs F' os :=
 ⟨h.len,fun n hn=>by obtain ⟨v,h1,h2⟩:=h.acc n hn;exact ⟨v,h1,by rw [hF n hn];exact h2⟩,h.dis⟩
theorem ShAcc.push {b g:Za} {K:Nat} {vs:List AV} {F:Nat→List Int} {os:Nat→Option Nat} (h:ShAcc b g K vs F os) {n:Nat} (hn:n<K) {v:AV} (hv:vs[n]? = some v) (x:Int) (hl:(F n).length≤2^20) :
  ∃ v' g' os',Xa Tryz.prog #[32,32] v (.arr 1 (b.length+g.length) 0 1) (b++(g++[.cells [.int .i64 x]]))=some (v',b++g')∧(∃ jo len,v'=.arr 1 (b.length+jo) 0 len)∧ShAcc b g' K (vs.set n v') (fun k=>if k=n then F k++[x] else F k) os':=by
 obtain ⟨w,hw,hA⟩:=h.acc n hn
 rw [hv] at hw
 obtain rfl:=Option.some.inj hw
 obtain ⟨v',g',jo,he,hA',hv',hkeep,hjo⟩:=Zcm hA x (by omega)
 refine ⟨v',g',fun k=>if k=n then some jo else os k,he,⟨jo,_,hv'⟩,by simp [h.len],fun k hk=>?_,fun p q hp hq hne j e1 e2=>?_⟩
 ·by_cases hkn:k=n
  ·subst hkn
   refine ⟨v',by rw [List.getElem?_set_self (by rw [h.len];exact hk)],?_⟩
   simpa using hA'
  ·obtain ⟨w,hw,hAk⟩:=h.acc k hk
   refine ⟨w,by rw [List.getElem?_set_ne (fun e=>hkn e.symm)];exact hw,?_⟩
   simp only [if_neg hkn]
   exact hAk.kept hkeep fun j e1 e2=>h.dis n k hn hk (fun e=>hkn e.symm) j e1 e2
 ·have hlt:∀ k,k<K→∀ j,os k=some j→j<g.length:=fun k hk j e=>by
   obtain ⟨w,_,hAk⟩:=h.acc k hk
   have:=hAk.val
   rw [e] at this
   exact (Qzs.1 this.2).1
  by_cases hpn:p=n
  ·subst hpn
   have hqn:¬ q=p:=fun e=>hne e.symm
   simp only [if_pos rfl,if_neg hqn] at e1 e2
   obtain rfl:=Option.some.inj e1
   rcases hjo with h1 | h1
   ·exact h.dis p q hp hq hne jo h1.symm e2
   ·have:=hlt q hq jo e2;omega
  ·by_cases hqn:q=n
   ·subst hqn
    simp only [if_pos rfl,if_neg hpn] at e1 e2
    obtain rfl:=Option.some.inj e2
    rcases hjo with h1 | h1
    ·exact h.dis p q hp hq hne jo e1 h1.symm
    ·have:=hlt p hp jo e1;omega
   ·simp only [if_neg hpn,if_neg hqn] at e1 e2
    exact h.dis p q hp hq hne j e1 e2
theorem ShAcc.lay {b g:Za} {K:Nat} {vs:List AV} {F:Nat→List Int} {os:Nat→Option Nat} (h:ShAcc b g K vs F os) {n j:Nat} (hn:n<K) (hj:os n=some j) {m:List Int} (hm:m.length=(F n).length):ShAcc b (g.set j (.cells (Ya m))) K vs (fun k=>if k=n then m else F k) os:=by
 refine ⟨h.len,fun k hk=>?_,h.dis⟩
 obtain ⟨w,hw,hA⟩:=h.acc k hk
 refine ⟨w,hw,?_⟩
 by_cases hkn:k=n
 ·subst hkn
  simp only [if_pos rfl]
  have hv:=hA.val
  rw [hj] at hv ⊢
  have hjl:=(Qzs.1 hv.2).1
  refine ⟨fun x hx=>by obtain ⟨y,_,rfl⟩:=List.mem_map.1 hx;exact ⟨rfl,by simp [AV.cells,AV.one]⟩,?_⟩
  refine ⟨by rw [hv.1];simp [Ya,hm],?_⟩
  rw [List.getElem?_set_self hjl,Xae (fun y hy=>by obtain ⟨z,_,rfl⟩:=List.mem_map.1 hy;rfl)]
  simp
 ·simp only [if_neg hkn]
  refine ⟨hA.len,?_⟩
  have hv:=hA.val
  cases hok:os k with
  | none=>rw [hok] at hv;exact hv
  | some jk =>
   rw [hok] at hv
   refine ⟨hv.1,?_⟩
   rw [List.getElem?_set_ne (fun e=>h.dis n k hn hk (fun e=>hkn e.symm) j hj (by rw [hok,e]))]
   exact hv.2
theorem Ybr {n:Nat} {σ g:Za} {v:AV} {l:List Int} {o:Option Nat} (h:Acc σ g 1 v (Ya l) o) (hn:n≤σ.length):Fz n (σ++g) v (.pl 1 (Ya l)):=by
 have hv:=h.val
 cases o with
 | none =>
  obtain ⟨rfl,e⟩:=hv
  rw [e]
  exact .nils_pl 1
 | some jo =>
  obtain ⟨rfl,hjo⟩:=hv
  rw [Xae (fun y hy=>by obtain ⟨z,_,rfl⟩:=List.mem_map.1 hy;rfl)] at hjo
  have hl:(Ya l).length=l.length:=by simp [Ya]
  rw [hl]
  exact Zco (by omega) (by rw [Qzr (by omega),Nat.add_sub_cancel_left];exact hjo)
theorem Zdg (n:Nat) (S:Za) (r:Rl):Fz n S (.agg [.int .i64 r.men,.pl 2 (r.ntcs.map Zc)]) (.agg [.int .i64 r.men,.pl 2 (r.ntcs.map Zc)]):=by
 refine Wcf (.int _ _) (.pl 2 _ fun i x hx j y hy=>?_)
 obtain ⟨z,_,rfl⟩:=List.mem_map.1 (Qzg hx)
 have:=Qzg hy
 simp [AV.cells,Zc] at this
 rcases this with rfl | rfl
 ·exact .int _ _
 ·exact Xcz _ _ _
def HoA (r:Rl) (t:Tab) (men slots:Nat) (σ:Za) (env:Env) (σ':Za):Prop:=∃ (u:List AV) (s:Nat) (vs:List AV) (g:Za) (os:Nat→Option Nat),env={ t:=u }∧u.length=82∧tg u 2=.ptr σ.length 0∧tg u 7=.arr 1 (σ.length+1) 0 r.ntcs.length∧tg u 36=.pl 1 ((Uf t men slots).map fun x=>.pl 1 (Ya x))∧tg u 37=.int .i64 slots∧tg u 38=.int .i64 s∧s≤slots ∧
 σ'=(σ++[.cells [.int .i64 r.men,.pl 2 (r.ntcs.map Zc)],.cells vs])++g∧ShAcc (σ++[zRl,zRl]) g r.ntcs.length vs (fun n=>Zn (Wd t men s) n) os
def HoB (r:Rl) (t:Tab) (men slots s:Nat) (σ:Za) (env:Env) (σ':Za):Prop:=∃ (u:List AV) (m:Nat) (vs:List AV) (g:Za) (os:Nat→Option Nat),env={ t:=u }∧u.length=82∧tg u 2=.ptr σ.length 0∧tg u 7=.arr 1 (σ.length+1) 0 r.ntcs.length∧tg u 9=.pl 1 (Ya (Wi t men s))∧tg u 36=.pl 1 ((Uf t men slots).map fun x=>.pl 1 (Ya x))∧tg u 37=.int .i64 slots∧tg u 38=.int .i64 s∧tg u 42=.pl 1 (Ya (Wi t men s))∧tg u 43=.int .i64 men∧tg u 44=.int .i64 m∧m≤men ∧
 σ'=(σ++[.cells [.int .i64 r.men,.pl 2 (r.ntcs.map Zc)],.cells vs])++g∧ShAcc (σ++[zRl,zRl]) g r.ntcs.length vs (fun n=>Zn (Wd t men s++Vk t s m) n) os
def HoC (r:Rl) (S:List (List Int)) (E:List Ent) (σ:Za) (env:Env) (σ':Za):Prop:=∃ (u:List AV) (k:Nat) (vs:List AV) (g:Za) (os:Nat→Option Nat),env={ t:=u }∧u.length=82∧tg u 2=.ptr σ.length 0∧tg u 7=.arr 1 (σ.length+1) 0 r.ntcs.length∧tg u 68=.arr 1 (σ.length+1) 0 r.ntcs.length∧tg u 69=.int .i64 r.ntcs.length∧tg u 70=.int .i64 k∧k≤r.ntcs.length ∧
 σ'=(σ++[.cells [.int .i64 r.men,.pl 2 (r.ntcs.map Zc)],.cells vs])++g∧ShAcc (σ++[zRl,zRl]) g r.ntcs.length vs (fun n=>if n<k then S.getD n [] else Zn E n) os
attribute [local irreducible] aws awp aw1 Og Om Oc Oa Ogd Ov Ot awd Zb awh Wb Ogh Ohd awl Ogl Ohl awv Ogv Ohv Xb Vb QFn Ub Xi QRo QBe Ui Uj ACode AYield
set_option maxHeartbeats 4000000 in
theorem Yh7 (r:Rl) (hr:r.Ok) (S:List (List Int)) (hs:ShOk r S) (t:Tab) (ht:SlInv (slotsOf r S).toNat (shP S) t):APure Tryz.prog 37 [Uh r,Ze (Uf t r.men.toNat (slotsOf r S).toNat)] (.tup [Ze S,.int .i64 0]):=by
 have hsl:=Vbl hr hs
 have hm1:=hr.m1
 have hm5:=hr.m5
 have hfew:=hr.few
 obtain ⟨slots,hsn⟩:∃ k:Nat,(slotsOf r S).toNat=k:=⟨_,rfl⟩
 obtain ⟨men,hmen⟩:∃ k:Nat,r.men.toNat=k:=⟨_,rfl⟩
 have hmen':r.men=men:=by omega
 have hs6:slots≤6:=by omega
 rw [hsn] at ht ⊢
 rw [hmen]
 have hcell:∀ s m,t s m=-1∨(0≤t s m∧t s m<r.ntcs.length):=fun s m=>by
  rcases Classical.em (t s m=-1) with e | e
  ·exact .inl e
  ·have:=hs.pairs hr (ht.mem s m e);exact .inr ⟨this.2.1,this.2.2⟩
 have hpl:(Uf t men slots).length=slots:=by simp [Uf]
 have hrows:∀ l∈Uf t men slots,l.length=men∧∀ n∈l,n=-1∨(0≤n∧n<r.ntcs.length):=fun l hl=>by
  obtain ⟨s,_,rfl⟩:=List.mem_map.1 hl
  refine ⟨by simp,fun n hn=>?_⟩
  obtain ⟨m,_,rfl⟩:=List.mem_map.1 hn
  exact hcell s m
 refine APure.of fun σ=>?_
 refine Yb Tryz.func37 rfl (Ua Tryz.func37 (by decide) rfl) ?_
 have hr0:Uh r=.agg [.int .i64 r.men,.pl 2 (r.ntcs.map Zc)]:=rfl
 have c1:=Zbp r hr
 obtain ⟨T,hT⟩:∃ T,σ++[AObj.cells [.int .i64 r.men,.pl 2 (r.ntcs.map Zc)]]=T:=⟨_,rfl⟩
 have hTq:∀ X:Za,(T++X)[σ.length]? = some (.cells [.int .i64 r.men,.pl 2 (r.ntcs.map Zc)]):=fun X=>by rw [← hT];simp
 have hTq0:T[σ.length]? = some (.cells [.int .i64 r.men,.pl 2 (r.ntcs.map Zc)]):=by have:=hTq [];rwa [List.append_nil] at this
 have c2:=Xb2 (Uf t men slots) 106 [] [.ptr σ.length 0] T (by omega) fun x hx g=>(Xhm r x σ.length (T++g) (hTq g) (by rw [(hrows x hx).1,hmen'])).mono fun v s hh=>⟨hh.1,[],by rw [hh.2];simp⟩
 have c3:=Xb2 (Uf t men slots) 107 [] [.ptr σ.length 0] T (by omega) fun x hx g=>(Zgf r hr x σ.length (T++g) (hTq g) (by rw [(hrows x hx).1];omega) (hrows x hx).2).mono fun v s hh=>⟨hh.1,[],by rw [hh.2];simp⟩
 rw [hr0] at c1 ⊢
 have hp0:Ze (Uf t men slots)=.pl 1 ((Uf t men slots).map fun x=>.pl 1 (Ya x)):=rfl
 obtain ⟨PL,hPL⟩:∃ PL,(Uf t men slots).map (fun x=>AV.pl 1 (Ya x))=PL:=⟨_,rfl⟩
 have hPLl:PL.length=slots:=by rw [← hPL];simp [hpl]
 rw [hp0,hPL] at c2 c3 ⊢
 have hn8:¬ (8:Int)<(slots:Int):=by omega
 have hmax:(r.ntcs.length:Int)*24≤281474976710656∧(r.ntcs.length:Int)≤9223372036854775807:=by omega
 simp [-Xa,Tryz.ntmps37]
 rw [hT]
 refine c1.use ?_
 simp [-Xa,hPLl,hn8]
 refine StA.of (c2.mono ?_)
 rintro v s' ⟨rfl,hs'⟩
 obtain rfl:=hs'.symm
 simp [-Xa,hPLl,hn8]
 refine StA.of (c3.mono ?_)
 rintro v s' ⟨rfl,hs'⟩
 obtain rfl:=hs'.symm
 simp [-Xa,hPLl,hn8,hTq0,hmax]
 refine Xc (HoA r t men slots σ) (fun env _=>match tg env.t 38 with | .int _ i=>slots - i.toNat | _=>0) ⟨_,0,List.replicate r.ntcs.length .nils,[],fun _=>none,rfl,by simp,by simp,by simp [← hT],by simp [hPL],by simp,by simp,by omega,by simp [← hT],by simp,fun n hn=>⟨.nils,by rw [List.getElem?_replicate,if_pos hn],by simpa [Zn,Wd,Ya] using Acc.nil _ _ _⟩,by simp⟩ ?_
 rintro env _ ⟨u,s,vs,g,os,rfl,hl,g2,g7,g36,g37,g38,hs',rfl,hA⟩
 have hvl:=hA.len
 rcases Qzn s slots with hlt | hge
 ·have hlt':(s:Int)<(slots:Int):=by omega
  have hx:=w64 (n:=(s:Int)+1) (by omega) (by omega)
  have hsl2:s<(Uf t men slots).length:=by rw [hpl];exact hlt
  have hrow:(Uf t men slots)[s]'hsl2=Wi t men s:=by simp [Uf,Wi]
  have hrl:(Ya (Wi t men s)).length=men:=by simp [Ya,Yal]
  simp [-Xa,hl,g2,g7,g36,g37,g38,hlt,hlt',hpl,hsl2,hrow,hrl]
  refine Xc (HoB r t men slots s σ) (fun env _=>match tg env.t 44 with | .int _ i=>men - i.toNat | _=>0) ⟨_,0,vs,g,os,rfl,by simp [hl],by simp [hl,g2],by simp [hl,g7],by simp [hl],by simp [hl,g36],by simp [hl,g37],by simp [hl,g38],by simp [hl],by simp [hl,hrl],by simp [hl],by omega,by simp,by simpa [Vk] using hA⟩ ?_
  clear hl g2 g7 g36 g37 g38 hA hvl u vs g os
  rintro env _ ⟨u,m,vs,g,os,rfl,hl,g2,g7,g9,g36,g37,g38,g42,g43,g44,hm,rfl,hA⟩
  have hvl:=hA.len
  rcases Qzn m men with hlt2 | hge2
  ·have hlt2':(m:Int)<(men:Int):=by omega
   have hx2:=w64 (n:=(m:Int)+1) (by omega) (by omega)
   have hmI:m<(Ya (Wi t men s)).length:=by omega
   have hmG:(Ya (Wi t men s))[m]'hmI=.int .i64 (t s m):=by simp [Ya,Wi]
   have hmG2:(Ya (Wi t men s))[m]? = some (.int .i64 (t s m)):=by rw [Qze hmI,hmG]
   rcases hcell s m with hno | ⟨h0,hK⟩
   ·simp [-Xa,hl,g2,g7,g9,g36,g37,g38,g42,g43,g44,hlt2,hlt2',hmI,hmG,hmG2,hrl,hno,hx2]
    exact ⟨⟨_,m+1,vs,g,os,rfl,by simp [hl],by simp [hl,g2],by simp [hl,g7],by simp [hl,g9],by simp [hl,g36],by simp [hl,g37],by simp [hl,g38],by simp [hl,g42],by simp [hl,g43],by simp [hl],hlt2,by simp,by
     rw [Vk,if_pos hno,List.append_nil];exact hA⟩,by omega⟩
   ·obtain ⟨n,hn⟩:∃ n:Nat,t s m=n:=⟨(t s m).toNat,by omega⟩
    have hnK:n<r.ntcs.length:=by omega
    have hnK':(n:Int)<(r.ntcs.length:Int):=by omega
    have hn1:¬ (n:Int)=-1:=by omega
    rw [hn] at hmG hmG2
    obtain ⟨v,hv,hAn⟩:=hA.acc n hnK
    have hFl:(Zn (Wd t men s++Vk t s m) n).length≤2^20:=by
     have q1:=Ua8 t s m
     have q2:=Ubd t men s
     have q3:=Zhl (Wd t men s++Vk t s m) n
     have q4:s*men≤6*5:=Nat.mul_le_mul (by omega) (by omega)
     rw [List.length_append] at q3
     omega
    obtain ⟨v',g',os',he,⟨jn,ln,hv'⟩,hA'⟩:=(hA.base (b':=σ++[AObj.cells [.int .i64 r.men,.pl 2 (r.ntcs.map Zc)],.cells vs]) (by simp)).push hnK hv (m:Int) hFl
    rw [show (σ++[AObj.cells [.int .i64 r.men,.pl 2 (r.ntcs.map Zc)],.cells vs]).length+g.length=σ.length+(g.length+1+1) by simp;omega] at he
    simp [-Xa] at he
    rw [show (σ++[AObj.cells [.int .i64 r.men,.pl 2 (r.ntcs.map Zc)],.cells vs]).length=σ.length+2 by simp] at hv'
    have hvn:n<vs.length:=by omega
    have hvg:vs[n]'hvn=v:=Option.some.inj ((Qze hvn).symm.trans hv)
    have htk:List.take m (Ya (Wi t men s))=Ya ((Wi t men s).take m):=by simp [Ya,List.map_take]
    have hmen2:m≤men:=by omega
    have hcon:=Ua3 ((Wi t men s).take m) n (by simp [Wi];omega)
    have hnot:decide ((n:Int)∈(Wi t men s).take m)=false:=by
     rw [decide_eq_false_iff_not]
     intro hmem
     obtain ⟨k,hk⟩:=List.getElem?_of_mem hmem
     have hkm:k<m:=by have:=(Qzs.1 hk).1;simp at this;omega
     rw [List.getElem?_take_of_lt hkm] at hk
     unfold Wi at hk
     rw [Qzp,List.getElem?_range (by omega)] at hk
     have hk2:t s k=n:=by simpa using hk
     have:=ht.row s k m (by rw [hk2,hn]) (by omega)
     omega
    rw [hnot] at hcon
    simp [-Xa,hl,g2,g7,g9,g36,g37,g38,g42,g43,g44,hlt2,hlt2',hmI,hmG,hmG2,hrl,hn1,hx2,hmen2]
    rw [htk]
    refine hcon.use ?_
    have hvn1:n+1≤vs.length:=hvn
    simp [-Xa,hl,g2,g7,g9,g36,g37,g38,g42,g43,g44,hnK',hvn,hvn1,hvg,hv]
    rw [he,Xk]
    subst hv'
    have hvs:List.take n vs++AV.arr 1 (σ.length+2+jn) 0 ln::List.drop (n+1) vs=vs.set n (.arr 1 (σ.length+2+jn) 0 ln):=by rw [List.set_eq_take_append_cons_drop,if_pos hvn]
    simp [-Xa,hl,g2,g7,g9,g36,g37,g38,g42,g43,g44,hvn,hvn1,hx2]
    rw [hvs]
    exact ⟨⟨_,m+1,vs.set n (.arr 1 (σ.length+2+jn) 0 ln),g',os',rfl,by simp [hl],by simp [hl,g2],by simp [hl,g7],by simp [hl,g9],by simp [hl,g36],by simp [hl,g37],by simp [hl,g38],by simp [hl,g42],by simp [hl,g43],by simp [hl],hlt2,by simp,(hA'.base (by simp)).congr fun k hk=>by
     rw [Vk,if_neg (by omega),← List.append_assoc,Wfq,hn]
     dsimp only
     by_cases hkn:k=n
     ·subst hkn;simp
     ·rw [if_neg (by omega),if_neg hkn,List.append_nil]⟩,by omega⟩
  ·obtain rfl:m=men:=by omega
   simp [-Xa,hl,g2,g7,g9,g36,g37,g38,g42,g43,g44,hx]
   exact ⟨⟨_,s+1,vs,g,os,rfl,by simp [hl],by simp [hl,g2],by simp [hl,g7],by simp [hl,g36],by simp [hl,g37],by simp [hl],hlt,by simp,by rw [Wd];exact hA⟩,by omega⟩
 ·obtain rfl:s=slots:=by omega
  simp [-Xa,hl,g2,g7,g36,g37,g38]
  refine Xc (HoC r S (Wd t men s) σ) (fun env _=>match tg env.t 70 with | .int _ i=>r.ntcs.length - i.toNat | _=>0) ⟨_,0,vs,g,os,rfl,by simp [hl],by simp [hl,g2],by simp [hl,g7],by simp [hl],by simp [hl],by simp [hl],by omega,by simp,by simpa using hA⟩ ?_
  clear hl g2 g7 g36 g37 g38 hA hvl u vs g os
  rintro env _ ⟨u,k,vs,g,os,rfl,hl,g2,g7,g68,g69,g70,hk,rfl,hA⟩
  have hvl:=hA.len
  rcases Qzn k r.ntcs.length with hlt2 | hge2
  ·have hlt2':(k:Int)<(r.ntcs.length:Int):=by omega
   have hx2:=w64 (n:=(k:Int)+1) (by omega) (by omega)
   obtain ⟨v,hv,hAk⟩:=hA.acc k hlt2
   have hkv:k<vs.length:=by omega
   have hkv1:k+1≤vs.length:=hkv
   have hvg:vs[k]'hkv=v:=Option.some.inj ((Qze hkv).symm.trans hv)
   simp [-Xa,hl,g2,g7,g68,g69,g70,hlt2,hlt2',hkv,hkv1,hvg,hv]
   have hSk:S[k]? = some (S[k]'(by have:=hs.len;omega)):=Qze (by have:=hs.len;omega)
   obtain ⟨l,hSl⟩:∃ l,S[k]'(by have:=hs.len;omega)=l:=⟨_,rfl⟩
   rw [hSl] at hSk
   obtain ⟨nt,hnt,ok,hl1,hl2,hl3⟩:=hs.mem hr hSk
   have hmm:=Zb9 ht (fun m n hm=>by have:=(hs.pairs hr hm).1;omega) (men:=men) k (by omega)
   have hnd:=Wer ht (show men≤10 by omega) k
   simp only [Nat.lt_irrefl,if_false] at hAk
   have hlen5:(Zn (Wd t men s) k).length≤6:=by
    have:=Yz (Zn (Wd t men s) k) l hnd fun x hx=>by
     obtain ⟨m,rfl,hm⟩:=(hmm x).1 hx
     obtain ⟨k2,l',hk2,e,x,hx,rfl⟩:=mem_shP.1 hm
     obtain rfl:k=k2:=by omega
     rw [hSk] at hk2
     obtain rfl:=Option.some.inj hk2
     have:=hl3 x hx
     rw [show ((x.toNat:Nat):Int)=x by omega]
     exact hx
    have:=Va2 hl2 fun x hx=>by have:=hl3 x hx;rw [hmen'] at this;exact this.2
    omega
   obtain ⟨jk,hjk⟩:∃ jk,os k=some jk:=by
    cases ho:os k with
    | some jk=>exact ⟨jk,rfl⟩
    | none =>
     exfalso
     rw [ho] at hAk
     have h0:Zn (Wd t men s) k=[]:=by simpa [Ya] using hAk.val.2
     have ht1:=ok.t1
     cases l with
     | nil=>simp at hl1;omega
     | cons x l =>
      have hx:=(hmm x).2 ⟨x.toNat,by have:=hl3 x (by simp);omega,mem_shP.2 ⟨k,_,hSk,rfl,x,by simp,rfl⟩⟩
      rw [h0] at hx
      simp at hx
   have hAv:=hAk.val
   rw [hjk] at hAv
   obtain ⟨hvk,hgk⟩:=hAv
   rw [Xae (fun y hy=>by obtain ⟨z,_,rfl⟩:=List.mem_map.1 hy;rfl)] at hgk
   have hjl:=(Qzs.1 hgk).1
   rw [show (Ya (Zn (Wd t men s) k)).length=(Zn (Wd t men s) k).length by simp [Ya],show (σ++[zRl,zRl]).length=σ.length+2 by simp] at hvk
   have hrow:(σ++AObj.cells [.int .i64 r.men,.pl 2 (r.ntcs.map Zc)]::.cells vs::g)[σ.length+2+jk]? = some (.cells (Ya (Zn (Wd t men s) k)++[])):=by
    rw [Qzr (by omega),show σ.length+2+jk - σ.length=jk+1+1 by omega,List.append_nil]
    simpa using hgk
   have hsort:=Xbv _ (σ.length+2+jk) (Zn (Wd t men s) k) [] hrow hlen5
   subst hvk
   refine StA.of (hsort.mono ?_)
   rintro _ _ ⟨q,hqp,hqs,rfl⟩
   have hset:(σ++AObj.cells [.int .i64 r.men,.pl 2 (r.ntcs.map Zc)]::.cells vs::g).set (σ.length+2+jk) (.cells (Ya q++[]))=σ++AObj.cells [.int .i64 r.men,.pl 2 (r.ntcs.map Zc)]::.cells vs::g.set jk (.cells (Ya q)):=by
    rw [List.set_append_right _ _ (by omega),show σ.length+2+jk - σ.length=jk+1+1 by omega,List.append_nil]
    simp
   rw [hset]
   have hq:q=l:=Yfu hr hs ht hSk (Vcc hqs (hqp.nodup_iff.2 hnd)) fun x=>by rw [hmen];exact hqp.mem_iff
   simp [-Xa,hl,g2,g7,g68,g69,g70,hx2]
   have hlay:=hA.lay hlt2 hjk (m:=q) (by simp [hqp.length_eq])
   exact ⟨⟨_,k+1,vs,_,os,rfl,by simp [hl],by simp [hl,g2],by simp [hl,g7],by simp [hl,g68],by simp [hl,g69],by simp [hl],hlt2,by simp,hlay.congr fun n hn=>by
    by_cases hnk:n=k
    ·subst hnk
     rw [if_pos (by omega),if_pos rfl,List.getD_eq_getElem?_getD,hSk,hq]
     rfl
    ·rw [if_neg hnk]
     by_cases h2:n<k
     ·rw [if_pos h2,if_pos (by omega)]
     ·rw [if_neg h2,if_neg (by omega)]⟩,by omega⟩
  ·obtain rfl:k=r.ntcs.length:=by omega
   simp [-Xa,hl,g2,g7,g68,g69,g70]
   have hSl:=hs.len
   have hz:∀ n,n≤σ.length→Fz n (σ++AObj.cells [.int .i64 r.men,.pl 2 (r.ntcs.map Zc)]::.cells vs::g) (.arr 1 (σ.length+1) 0 r.ntcs.length) (Ze S):=fun n hn=>by
    have:=Xbn (n:=n) (S:=σ++AObj.cells [.int .i64 r.men,.pl 2 (r.ntcs.map Zc)]::.cells vs::g) (r:=σ.length+1) (cs:=vs) (R:=S) (by omega) (by simp) fun k l hk=>by
     have hkl:=(Qzs.1 hk).1
     obtain ⟨v,hv,hAk⟩:=hA.acc k (by omega)
     refine ⟨v,hv,?_⟩
     have:=Ybr (n:=n) (hAk.base (σ':=σ++[AObj.cells [.int .i64 r.men,.pl 2 (r.ntcs.map Zc)],.cells vs]) (by simp)) (by simp;omega)
     rw [if_pos (by omega),List.getD_eq_getElem?_getD,hk] at this
     simpa using this
    rw [hSl] at this
    exact this
   have cS:=Yhn r S hr hs
   rw [hr0] at cS
   refine StA.of ((APure.lend (args':=[AV.agg [AV.int IntKind.i64 r.men,AV.pl 2 (List.map Zc r.ntcs)],AV.arr 1 (σ.length+1) 0 r.ntcs.length]) cS rfl (fun i x y hx hy=>?_) (fun C C' c hv=>by cases hv;exact .int _ _)).mono ?_)
   ·match i,hx,hy with
    | 0,hx,hy=>simp at hx hy;subst hx;subst hy;exact Zdg _ _ r
    | 1,hx,hy=>simp at hx hy;subst hx;subst hy;exact hz 0 (Nat.zero_le _)
    | i+2,hx,hy=>simp at hx
   ·rintro v s' ⟨rfl,rfl⟩
    simp [-Xa,hl,g2,g7]
    exact hz _ (Nat.le_refl _)
end Ab

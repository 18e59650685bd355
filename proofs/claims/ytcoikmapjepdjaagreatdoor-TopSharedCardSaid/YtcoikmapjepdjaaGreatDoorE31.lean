/-
  Texts packed for a claim.
-/
import Derived.Test.YtcoikmapjepdjaaGreatDoorE00
import Derived.Test.YtcoikmapjepdjaaGreatDoorE25
import Derived.Test.YtcoikmapjepdjaaGreatDoorE30
set_option linter.all false
namespace Ab
open Go Go.RowKit Go.Proofs
def zRl:AObj:=.cells [.int .i64 0,.nils]
theorem Xb7 {m:List Int} (h:m.Pairwise (·≤·)) (hn:m.Nodup):m.Pairwise (·<·):=by
 induction m with
 | nil=>exact .nil
 | cons x m ih =>
  rw [List.pairwise_cons] at h ⊢
  rw [List.nodup_cons] at hn
  refine ⟨fun y hy=>?_,ih h.2 hn.2⟩
  have:=h.1 y hy
  rcases Classical.em (x=y) with e | e
  ·exact absurd (e▸hy) hn.1
  ·omega
theorem Yc9 {S g:Za} {v:AV} {L:List (Ntc × AV)} {o:Option Nat} (hA:Acc S g 2 v (L.map fun p=>AV.agg [.int .i64 p.1.times,p.2]) o) (x:Ntc × AV) (hx:x.2.one=true) (hl:L.length≤2^30) :
  ∃ v' g' jo,Xa Tryz.prog #[25,25] v (.pl 2 [.agg [.int .i64 x.1.times,x.2]]) (S++g)=some (v',S++g')∧Acc S g' 2 v' ((L++[x]).map fun p=>AV.agg [.int .i64 p.1.times,p.2]) (some jo)∧v'=.arr 2 (S.length+jo) 0 (L.length+1)∧(∀ j,some j≠o→j<g.length→g'[j]? = g[j]?)∧(some jo=o∨jo=g.length):=by
 obtain ⟨v',g',o',he,hA',hlen,hkeep,ho⟩:=hA.app (P:=Tryz.prog) (t:=25) (e:=34) (ag:=true) (ys:=[AV.agg [.int .i64 x.1.times,x.2]]) (y:=.pl 2 [AV.agg [.int .i64 x.1.times,x.2]]) (by simp) (by simp) (by simp) (by omega) (fun y hy=>by
  rw [List.mem_singleton.1 hy]
  refine ⟨rfl,fun z hz=>?_⟩
  simp [AV.cells] at hz
  rcases hz with rfl | rfl
  ·rfl
  ·exact hx) (by simp [AV.cells]) (by simp;omega)
 have e:(L.map fun p=>AV.agg [.int .i64 p.1.times,p.2])++[AV.agg [.int .i64 x.1.times,x.2]]=(L++[x]).map fun p=>AV.agg [.int .i64 p.1.times,p.2]:=by simp
 rw [e] at hA'
 obtain ⟨jo,rfl⟩:∃ jo,o'=some jo:=by
  cases o' with
  | none=>exact absurd hA'.val.2 (by simp)
  | some jo=>exact ⟨jo,rfl⟩
 refine ⟨v',g',jo,he,hA',by rw [hA'.val.1];simp,hkeep,?_⟩
 rcases ho with h | h
 ·exact .inl h
 ·exact .inr (by simpa using h)
def MdN (l:List UInt8) (d:Nat) (σ:Za) (men n:Nat) (env:Env) (σ':Za):Prop:=∃ (u:List AV) (i:Nat) (v:AV) (L:List (Ntc × AV)) (g:Za) (o:Option Nat) (a:Nat) (c:Int),env={ t:=u }∧u.length=44∧tg u 0=.ptr d 0∧tg u 6=.ptr σ.length 0∧tg u 7=.ptr (σ.length+1) 0∧tg u 15=.int .i64 n∧tg u 16=.int .i64 i∧i≤n∧L.length=i ∧
 σ'=(σ.set d (Yc l a c)++[zRl,.cells [.int .i64 men,v]])++g∧a≤l.length∧Acc (σ++[zRl,zRl]) g 2 v (L.map fun p=>AV.agg [.int .i64 p.1.times,p.2]) o∧∀ p∈L,p.1.Ok men∧RowAt (σ.length+2) g o p.2 p.1.men
attribute [local irreducible] aws awp aw1 Og Om Oc Oa Ogd Ov Ot awd Ua awh Xb Ogh Ohd awl Ogl Ohl awv Ogv Ohv Wb Vb QFn Zc Vg QRo QBe Yf Yg ACode AYield
end Ab
namespace Ab
open Go Go.RowKit Go.Proofs
def Vgk (men n:Nat):List Int:=List.replicate n (-1)++List.replicate (men - n) 0
def RpA (σ:Za) (men:Nat) (env:Env) (σ':Za):Prop:=∃ (u:List AV) (n:Nat),env={ t:=u }∧u.length=48∧tg u 7=.arr 1 σ.length 0 men∧tg u 8=.int .i64 n∧1≤n∧n≤men∧σ'=σ++[.cells (Ya (Vgk men n))]
attribute [local irreducible] aws awp aw1 Og Om Oc Oa Ogd Ov Ot awd Ua awh Xb Ogh Ohd awl Ogl Ohl awv Ogv Ohv Wb Vb QFn Zc Vg QRo QBe Yf Yg ACode AYield
end Ab
namespace Ab
open Go Go.RowKit Go.Proofs
attribute [local irreducible] aws awp aw1 Og Om Oc Oa Ogd Ov Ot awd Ua awh Xb Ogh Ohd awl Ogl Ohl awv Ogv Ohv Wb Vb QFn Zc Vg QRo QBe Yf Yg ACode AYield
end Ab
namespace Ab
open Go Go.RowKit Go.Proofs
structure ShAcc (b g:Za) (K:Nat) (vs:List AV) (F:Nat→List Int) (os:Nat→Option Nat):Prop where
 len:vs.length=K
 acc:∀ n,n<K→∃ v,vs[n]? = some v∧Acc b g 1 v (Ya (F n)) (os n)
 dis:∀ x y,x<K→y<K→x≠y→∀ j,os x=some j→os y≠some j
theorem ShAcc.base {b b' g:Za} {K:Nat} {vs:List AV} {F:Nat→List Int} {os:Nat→Option Nat} (h:ShAcc b g K vs F os) (hb:b'.length=b.length):ShAcc b' g K vs F os :=
 ⟨h.len,fun n hn=>by obtain ⟨v,h1,h2⟩:=h.acc n hn;exact ⟨v,h1,h2.base hb.symm⟩,h.dis⟩
theorem ShAcc.congr {b g:Za} {K:Nat} {vs:List AV} {F F':Nat→List Int} {os:Nat→Option Nat} (h:ShAcc b g K vs F os) (hF:∀ n,n<K→F' n=F n):ShAcc b g K vs F' os :=
 ⟨h.len,fun n hn=>by obtain ⟨v,h1,h2⟩:=h.acc n hn;exact ⟨v,h1,by rw [hF n hn];exact h2⟩,h.dis⟩
theorem ShAcc.push {b g:Za} {K:Nat} {vs:List AV} {F:Nat→List Int} {os:Nat→Option Nat} (h:ShAcc b g K vs F os) {n:Nat} (hn:n<K) {v:AV} (hv:vs[n]? = some v) (x:Int) (hl:(F n).length≤2^20) :
  ∃ v' g' os',Xa Tryz.prog #[32,32] v (.arr 1 (b.length+g.length) 0 1) (b++(g++[.cells [.int .i64 x]]))=some (v',b++g')∧(∃ jo len,v'=.arr 1 (b.length+jo) 0 len)∧ShAcc b g' K (vs.set n v') (fun k=>if k=n then F k++[x] else F k) os':=by
 obtain ⟨w,hw,hA⟩:=h.acc n hn
 rw [hv] at hw
 obtain rfl:=Option.some.inj hw
 obtain ⟨v',g',jo,he,hA',hv',hkeep,hjo⟩:=Ua9 hA x (by omega)
 refine ⟨v',g',fun k=>if k=n then some jo else os k,he,⟨jo,_,hv'⟩,by simp [h.len],fun k hk=>?_,fun p q hp hq hne j e1 e2=>?_⟩
 ·by_cases hkn:k=n
  ·subst hkn
   refine ⟨v',by rw [List.getElem?_set_self (by rw [h.len];exact hk)],?_⟩
   simpa using hA'
  ·obtain ⟨w,hw,hAk⟩:=h.acc k hk
   refine ⟨w,by rw [List.getElem?_set_ne (fun e=>hkn e.symm)];exact hw,?_⟩
   simp only [if_neg hkn]
   exact hAk.kept hkeep fun j e1 e2=>h.dis n k hn hk (fun e=>hkn e.symm) j e1 e2
 ·have hlt:∀ k,k<K→∀ j,os k=some j→j<g.length:=fun k hk j e=>by
   obtain ⟨w,_,hAk⟩:=h.acc k hk
   have:=hAk.val
   rw [e] at this
   exact (Qzs.1 this.2).1
  by_cases hpn:p=n
  ·subst hpn
   have hqn:¬ q=p:=fun e=>hne e.symm
   simp only [if_pos rfl,if_neg hqn] at e1 e2
   obtain rfl:=Option.some.inj e1
   rcases hjo with h1 | h1
   ·exact h.dis p q hp hq hne jo h1.symm e2
   ·have:=hlt q hq jo e2;omega
  ·by_cases hqn:q=n
   ·subst hqn
    simp only [if_pos rfl,if_neg hpn] at e1 e2
    obtain rfl:=Option.some.inj e2
    rcases hjo with h1 | h1
    ·exact h.dis p q hp hq hne jo e1 h1.symm
    ·have:=hlt p hp jo e1;omega
   ·simp only [if_neg hpn,if_neg hqn] at e1 e2
    exact h.dis p q hp hq hne j e1 e2
theorem ShAcc.lay {b g:Za} {K:Nat} {vs:List AV} {F:Nat→List Int} {os:Nat→Option Nat} (h:ShAcc b g K vs F os) {n j:Nat} (hn:n<K) (hj:os n=some j) {m:List Int} (hm:m.length=(F n).length):ShAcc b (g.set j (.cells (Ya m))) K vs (fun k=>if k=n then m else F k) os:=by
 refine ⟨h.len,fun k hk=>?_,h.dis⟩
 obtain ⟨w,hw,hA⟩:=h.acc k hk
 refine ⟨w,hw,?_⟩
 by_cases hkn:k=n
 ·subst hkn
  simp only [if_pos rfl]
  have hv:=hA.val
  rw [hj] at hv ⊢
  have hjl:=(Qzs.1 hv.2).1
  refine ⟨fun x hx=>by obtain ⟨y,_,rfl⟩:=List.mem_map.1 hx;exact ⟨rfl,by simp [AV.cells,AV.one]⟩,?_⟩
  refine ⟨by rw [hv.1];simp [Ya,hm],?_⟩
  rw [List.getElem?_set_self hjl,Vy (fun y hy=>by obtain ⟨z,_,rfl⟩:=List.mem_map.1 hy;rfl)]
  simp
 ·simp only [if_neg hkn]
  refine ⟨hA.len,?_⟩
  have hv:=hA.val
  cases hok:os k with
  | none=>rw [hok] at hv;exact hv
  | some jk =>
   rw [hok] at hv
   refine ⟨hv.1,?_⟩
   rw [List.getElem?_set_ne (fun e=>h.dis n k hn hk (fun e=>hkn e.symm) j hj (by rw [hok,e]))]
   exact hv.2
theorem Ubv {n:Nat} {σ g:Za} {v:AV} {l:List Int} {o:Option Nat} (h:Acc σ g 1 v (Ya l) o) (hn:n≤σ.length):Fz n (σ++g) v (.pl 1 (Ya l)):=by
 have hv:=h.val
 cases o with
 | none =>
  obtain ⟨rfl,e⟩:=hv
  rw [e]
  exact .nils_pl 1
 | some jo =>
  obtain ⟨rfl,hjo⟩:=hv
  rw [Vy (fun y hy=>by obtain ⟨z,_,rfl⟩:=List.mem_map.1 hy;rfl)] at hjo
  have hl:(Ya l).length=l.length:=by simp [Ya]
  rw [hl]
  exact Wbh (by omega) (by rw [Qzr (by omega),Nat.add_sub_cancel_left];exact hjo)
def HoA (r:Rl) (t:Tab) (men slots:Nat) (σ:Za) (env:Env) (σ':Za):Prop:=∃ (u:List AV) (s:Nat) (vs:List AV) (g:Za) (os:Nat→Option Nat),env={ t:=u }∧u.length=82∧tg u 2=.ptr σ.length 0∧tg u 7=.arr 1 (σ.length+1) 0 r.ntcs.length∧tg u 36=.pl 1 ((Uch t men slots).map fun x=>.pl 1 (Ya x))∧tg u 37=.int .i64 slots∧tg u 38=.int .i64 s∧s≤slots ∧
 σ'=(σ++[.cells [.int .i64 r.men,.pl 2 (r.ntcs.map Ub)],.cells vs])++g∧ShAcc (σ++[zRl,zRl]) g r.ntcs.length vs (fun n=>Ya7 (Wbk t men s) n) os
def HoB (r:Rl) (t:Tab) (men slots s:Nat) (σ:Za) (env:Env) (σ':Za):Prop:=∃ (u:List AV) (m:Nat) (vs:List AV) (g:Za) (os:Nat→Option Nat),env={ t:=u }∧u.length=82∧tg u 2=.ptr σ.length 0∧tg u 7=.arr 1 (σ.length+1) 0 r.ntcs.length∧tg u 9=.pl 1 (Ya (Zbq t men s))∧tg u 36=.pl 1 ((Uch t men slots).map fun x=>.pl 1 (Ya x))∧tg u 37=.int .i64 slots∧tg u 38=.int .i64 s∧tg u 42=.pl 1 (Ya (Zbq t men s))∧tg u 43=.int .i64 men∧tg u 44=.int .i64 m∧m≤men ∧
 σ'=(σ++[.cells [.int .i64 r.men,.pl 2 (r.ntcs.map Ub)],.cells vs])++g∧ShAcc (σ++[zRl,zRl]) g r.ntcs.length vs (fun n=>Ya7 (Wbk t men s++Zbm t s m) n) os
def HoC (r:Rl) (S:List (List Int)) (E:List Ent) (σ:Za) (env:Env) (σ':Za):Prop:=∃ (u:List AV) (k:Nat) (vs:List AV) (g:Za) (os:Nat→Option Nat),env={ t:=u }∧u.length=82∧tg u 2=.ptr σ.length 0∧tg u 7=.arr 1 (σ.length+1) 0 r.ntcs.length∧tg u 68=.arr 1 (σ.length+1) 0 r.ntcs.length∧tg u 69=.int .i64 r.ntcs.length∧tg u 70=.int .i64 k∧k≤r.ntcs.length ∧
 σ'=(σ++[.cells [.int .i64 r.men,.pl 2 (r.ntcs.map Ub)],.cells vs])++g∧ShAcc (σ++[zRl,zRl]) g r.ntcs.length vs (fun n=>if n<k then S.getD n [] else Ya7 E n) os
attribute [local irreducible] aws awp aw1 Og Om Oc Oa Ogd Ov Ot awd Ua awh Xb Ogh Ohd awl Ogl Ohl awv Ogv Ohv Wb Vb QFn Zc Vg QRo QBe Yf Yg ACode AYield
end Ab
namespace Ab
open Go Go.RowKit Go.Proofs
theorem Zfa {α:Type} (f h:α→AV) (P:AV→AV→Prop):∀ L:List α,(∀ x∈L,(f x).cells.length=(h x).cells.length∧∀ (j:Nat) (a b:AV),(f x).cells[j]? = some a→(h x).cells[j]? = some b→P a b) →
  ((L.map f).flatMap AV.cells).length=((L.map h).flatMap AV.cells).length∧∀ (i:Nat) (a b:AV),((L.map f).flatMap AV.cells)[i]? = some a→((L.map h).flatMap AV.cells)[i]? = some b→P a b:=by
 intro L
 induction L with
 | nil=>intro _;exact ⟨rfl,fun i a b ha=>by simp at ha⟩
 | cons x L ih =>
  intro hL
  obtain ⟨h1,h2⟩:=ih fun y hy=>hL y (by simp [hy])
  obtain ⟨h3,h4⟩:=hL x (by simp)
  simp only [List.map_cons,List.flatMap_cons]
  refine ⟨by rw [List.length_append,List.length_append,h1,h3],fun i a b ha hb=>?_⟩
  rcases Qzn i (f x).cells.length with hi | hi
  ·rw [Qzl hi] at ha
   rw [Qzl (by omega)] at hb
   exact h4 i a b ha hb
  ·rw [Qzr hi] at ha
   rw [Qzr (by omega),← h3] at hb
   exact h2 _ a b ha hb
theorem View.accF {S g:Za} {k:Nat} {v:AV} {L L':List AV} {o:Option Nat} (hA:Acc S g k v L o) (hl:L'.length=L.length) (h1:∀ y∈L',y.cells.length=k∧∀ z∈y.cells,z.one=true)
  (hc:(L'.flatMap AV.cells).length=(L.flatMap AV.cells).length) (hz:∀ (i:Nat) (x y:AV),(L.flatMap AV.cells)[i]? = some x→(L'.flatMap AV.cells)[i]? = some y→Vw (MdP S.length o) (S++g) x y):∃ g',g'.length=g.length∧View (MdP S.length o) (S++g) (S++g')∧Acc S g' k v L' o:=by
 refine ⟨g.mapIdx fun j _=>if o=some j then .cells (L'.flatMap AV.cells) else .dead,by simp,⟨by simp,fun r o' ho hlv=>?_⟩,⟨h1,?_⟩⟩
 ·rcases Qzn r S.length with h | h
  ·rw [Qzl h] at ho
   exact ⟨by unfold MdP;simp;omega,o',by rw [Qzl h];exact ho,hlv,.inl rfl⟩
  ·rw [Qzr h,List.getElem?_mapIdx,Qzm] at ho
   obtain ⟨x,hx,rfl⟩:=ho
   split at hlv
   ·rename_i e
    subst e
    have hv:=hA.val
    refine ⟨by unfold MdP;simp,.cells (L.flatMap AV.cells),by rw [Qzr h];exact hv.2,rfl,.inr ⟨_,_,rfl,by rw [if_pos rfl],hc,hz⟩⟩
   ·cases hlv
 ·have hv:=hA.val
  cases o with
  | none=>exact ⟨hv.1,List.eq_nil_of_length_eq_zero (by rw [hl,hv.2];rfl)⟩
  | some j =>
   refine ⟨by rw [hv.1,hl],?_⟩
   have hj:=(Qzs.1 hv.2).1
   rw [List.getElem?_mapIdx,Qze hj]
   simp
theorem RowAt.vwM {S g:Za} {o:Option Nat} {v:AV} {l:List Int} (h:RowAt S.length g o v l):Vw (MdP S.length o) (S++g) v (.pl 1 (Ya l)):=by
 obtain ⟨p,rest,rfl,hne,hp⟩:=h
 have hT:(S++g)[S.length+p]? = some (.cells (Ya l++rest)):=by rw [Qzr (by omega),Nat.add_sub_cancel_left];exact hp
 have hb:=Yaf (p:=MdP S.length o) hT (by unfold MdP;simp;exact fun e=>hne e.symm)
 refine .inr (Wag (Nat.zero_le _) hb fun i x hx=>?_)
 have hi:=(Qzs.1 hx).1
 rw [Nat.zero_add,Qzl (by simpa [Ya] using hi)]
 unfold Ya
 rw [Qzp,hx]
 rfl
attribute [local irreducible] aws awp aw1 Og Om Oc Oa Ogd Ov Ot awd Ua awh Xb Ogh Ohd awl Ogl Ohl awv Ogv Ohv Wb Vb QFn Zc Vg QRo QBe Yf Yg ACode AYield
set_option maxHeartbeats 4000000 in
theorem Xfh (σ:Za) (d:Nat) (l:List UInt8) (a:Nat) (c:Int) (h:σ[d]? = some (Yc l a c)) (ha:a≤l.length) (hl:l.length≤9223372036854775807) (M K:Nat) (hM1:1≤M) (hM5:M≤5) (hK6:K≤6) :
  ACalls Tryz.prog 9 [.ptr d 0,.int .i64 M,.int .i64 K] σ fun v s=>∃ (r:Rl) (a':Nat) (c':Int) (v1:AV) (g:Za) (o:Option Nat),v=.agg [.int .i64 r.men,v1]∧r.Ok∧r.men≤M∧r.ntcs.length≤K∧a'≤l.length∧s=σ.set d (Yc l a' c')++g∧Acc (σ.set d (Yc l a' c')) g 2 v1 (r.ntcs.map Ub) o:=by
 have hd:=(Qzs.1 h).1
 refine ACalls.viewR ?_
 refine Yb Tryz.func9 rfl (Zb Tryz.func9 (by decide) rfl) ?_
 have hbA:∀ (B:AObj) (X:Za),(σ.set d B++X)[d]? = some B:=fun B X=>Xbf hd B
 simp [-Xa,Tryz.ntmps9]
 refine StA.of ((Ucb _ d l a c 1 M (by rw [Qzl hd];exact h) ha hl (by omega) (by omega) (by omega)).mono ?_)
 rintro _ _ ⟨men,a1,c1,rfl,m1,m2,ha1,rfl⟩
 rw [List.set_append_left _ _ hd]
 obtain ⟨men,rfl⟩:∃ m:Nat,men=m:=⟨men.toNat,by omega⟩
 simp [-Xa]
 refine StA.of ((Wcb _ d l a1 c1 K (hbA _ _) ha1 hl (by omega) (by omega)).mono ?_)
 rintro _ _ ⟨n,a2,c2,rfl,n0,n1,ha2,rfl⟩
 rw [set_set hd]
 obtain ⟨n,rfl⟩:∃ m:Nat,n=m:=⟨n.toNat,by omega⟩
 try simp [-Xa]
 refine Wd (MdN l d σ men n) (fun env _=>match tg env.t 16 with | .int _ i=>n - i.toNat | _=>0) ⟨_,0,.nils,[],[],none,a2,c2,rfl,by simp,by simp,by simp,by simp,by simp,by simp,by omega,rfl,by simp [zRl],ha2,Acc.nil _ _ _,by simp⟩ ?_
 rintro env _ ⟨u,i,v,L,g,o,a3,c3,rfl,hl2,g0,g6,g7,g15,g16,hi,hLl,rfl,ha3,hA,hL⟩
 obtain ⟨S,hS⟩:∃ S,σ.set d (Yc l a3 c3)++[zRl,AObj.cells [.int .i64 men,v]]=S:=⟨_,rfl⟩
 have hSl:S.length=σ.length+2:=by rw [← hS];simp
 have hSm0:∀ X:Za,(S++X)[σ.length+1]? = some (.cells [.int .i64 men,v]):=fun X=>by rw [← hS];simp
 rcases Qzn i n with hlt | hge
 ·have hlt':(i:Int)<(n:Int):=by omega
  have hx:=w64 (n:=(i:Int)+1) (by omega) (by omega)
  have hSm:∀ X:Za,(S++X)[σ.length+1]? = some (.cells [.int .i64 men,v]):=fun X=>by rw [← hS];simp
  have hSd:∀ X:Za,(S++X)[d]? = some (Yc l a3 c3):=fun X=>by rw [← hS,List.append_assoc];exact hbA _ _
  have hSs:∀ (X:Za) (a c),(S++X).set d (Yc l a c)=(σ.set d (Yc l a c)++[zRl,AObj.cells [.int .i64 men,v]])++X:=fun X a c=>by rw [← hS,List.append_assoc,set_set hd,List.append_assoc]
  rw [hS]
  simp [-Xa,hl2,g0,g6,g7,g15,g16,hlt',hSm]
  obtain ⟨w,s9,hr,R,a4,c4,g2,o2,rfl,hRl,hRn,hRm,ha4,hA2⟩:=Wb8 (S++g) d l a3 c3 men (hSd _) ha3 hl (by omega)
  refine StA.of (hr.mono ?_)
  rintro _ _ ⟨rfl,rfl⟩
  obtain ⟨jo,rfl⟩:∃ jo,o2=some jo:=by
   cases o2 with
   | none =>
    have h0:R=[]:=by simpa [Ya] using hA2.val.2
    rw [h0] at hRl
    simp at hRl
    omega
   | some jo=>exact ⟨jo,rfl⟩
  obtain ⟨hw,hgj⟩:=hA2.val
  have hil:(Ya R).length=men:=by simp [Ya,hRl]
  rw [Vy (fun y hy=>by obtain ⟨z,_,rfl⟩:=List.mem_map.1 hy;rfl)] at hgj
  rw [hil] at hw
  subst hw
  obtain ⟨S2,hS2⟩:∃ S2,σ.set d (Yc l a4 c4)++[zRl,AObj.cells [.int .i64 men,v]]=S2:=⟨_,rfl⟩
  have hS2l:S2.length=σ.length+2:=by rw [← hS2];simp
  rw [hSs,hS2]
  have hSm2:∀ X:Za,(S2++X)[σ.length+1]? = some (.cells [.int .i64 men,v]):=fun X=>by rw [← hS2];simp
  have hSd2:∀ X:Za,(S2++X)[d]? = some (Yc l a4 c4):=fun X=>by rw [← hS2,List.append_assoc];exact hbA _ _
  have hlen0:(S++g).length=σ.length+2+g.length:=by simp [hSl]
  rw [hlen0,List.append_assoc]
  simp [-Xa,hl2,g0,g6,g7,g15,g16]
  refine StA.of ((Ucb _ d l a4 c4 1 men (hSd2 _) ha4 hl (by omega) (by omega) (by omega)).mono ?_)
  rintro _ _ ⟨k,a5,c5,rfl,k1,k2,ha5,rfl⟩
  obtain ⟨k,rfl⟩:∃ m:Nat,k=m:=⟨k.toNat,by omega⟩
  have hS5:∀ (X:Za) (a c),(S2++X).set d (Yc l a c)=(σ.set d (Yc l a c)++[zRl,AObj.cells [.int .i64 men,v]])++X:=fun X a c=>by rw [← hS2,List.append_assoc,set_set hd,List.append_assoc]
  rw [hS5]
  have hkm:(k:Int)≤(men:Int):=k2
  have hkm':k≤men:=by omega
  obtain ⟨S5,hS5e⟩:∃ S5,σ.set d (Yc l a5 c5)++[zRl,AObj.cells [.int .i64 men,v]]=S5:=⟨_,rfl⟩
  have hS5l:S5.length=σ.length+2:=by rw [← hS5e];simp
  rw [hS5e]
  have hk0:¬ 0=k:=by omega
  simp [-Xa,hl2,g0,g6,g7,g15,g16,hkm,hkm',hk0]
  have hjl:=(Qzs.1 hgj).1
  have hRtl:(R.take k).length=k:=by simp;omega
  have hrow:(S5++(g++g2))[σ.length+2+g.length+jo]? = some (.cells (Ya (R.take k)++Ya (R.drop k))):=by
   rw [Qzr (by omega),Qzr (by omega),show σ.length+2+g.length+jo - S5.length - g.length=jo by omega,hgj]
   simp [Ya,← List.map_append]
  have hsort:=Wbc (S5++(g++g2)) (σ.length+2+g.length+jo) (R.take k) (Ya (R.drop k)) hrow (by omega)
  rw [hRtl] at hsort
  refine StA.of (hsort.mono ?_)
  rintro _ _ ⟨m,hmp,hms,rfl⟩
  have hml:m.length=k:=by rw [hmp.length_eq,hRtl]
  have hset:(S5++(g++g2)).set (σ.length+2+g.length+jo) (.cells (Ya m++Ya (R.drop k)))=S5++(g++g2.set jo (.cells (Ya m++Ya (R.drop k)))):=by
   rw [List.set_append_right _ _ (by omega),List.set_append_right _ _ (by omega),show σ.length+2+g.length+jo - S5.length - g.length=jo by omega]
  rw [hset]
  obtain ⟨g3,hg3⟩:∃ g3,g2.set jo (.cells (Ya m++Ya (R.drop k)))=g3:=⟨_,rfl⟩
  rw [hg3]
  have hS5m:∀ X:Za,(S5++X)[σ.length+1]? = some (.cells [.int .i64 men,v]):=fun X=>by rw [← hS5e];simp
  have hS5d:∀ X:Za,(S5++X)[d]? = some (Yc l a5 c5):=fun X=>by rw [← hS5e,List.append_assoc];exact hbA _ _
  have hS6:∀ (X:Za) (a c),(S5++X).set d (Yc l a c)=(σ.set d (Yc l a c)++[zRl,AObj.cells [.int .i64 men,v]])++X:=fun X a c=>by rw [← hS5e,List.append_assoc,set_set hd,List.append_assoc]
  have hmin:(if (k:Int)<3 then (k:Int) else 3)=(min 3 k:Nat):=by split<;>omega
  simp [-Xa,hl2,g0,g6,g7,g15,g16]
  refine Xp [6,10,12] [(0,1),(1,1),(7,0)] mixed (by kernel_rfl) (by kernel_rfl) ?_
  obtain ⟨tm,a6,c6,hst,t1,t2,ha6⟩:=Wg2 (S5++(g++g3)) d l a5 c5 1 (min 3 k:Nat) (hS5d _) ha5 hl (by omega) (by omega) (by omega)
  simp [-Xa,hl2,g0,g6,g7,g15,g16,hS5m,hmin]
  refine Zab hst ?_
  rw [hS6]
  obtain ⟨S6,hS6e⟩:∃ S6,σ.set d (Yc l a6 c6)++[zRl,AObj.cells [.int .i64 men,v]]=S6:=⟨_,rfl⟩
  have hS6l:S6.length=σ.length+2:=by rw [← hS6e];simp
  have hS6m:∀ X:Za,(S6++X)[σ.length+1]? = some (.cells [.int .i64 men,v]):=fun X=>by rw [← hS6e];simp
  rw [hS6e]
  have hol:∀ j,o=some j→j<g.length:=fun j e=>by
   have:=hA.val
   rw [e] at this
   exact (Qzs.1 this.2).1
  obtain ⟨v',g',jn,he,hA',hv',hkeep,hjn⟩:=Yc9 ((hA.base (σ':=S6) (by rw [hS6l];simp)).more g3) (⟨tm,m⟩,.arr 1 (σ.length+2+g.length+jo) 0 k) rfl (by omega)
  simp only [] at he
  simp [-Xa,hl2,g0,g6,g7,g15,g16,hS6m]
  rw [he,Wl]
  subst hv'
  have hS6s:∀ (X:Za) (y:AObj),(S6++X).set (σ.length+1) y=(σ.set d (Yc l a6 c6)++[zRl,y])++X:=fun X y=>by rw [← hS6e];simp
  simp [-Xa,hl2,g0,g6,g7,g15,g16,hS6m,hS6s,hx]
  have hon:∀ p,some p≠some jn∨True:=fun p=>.inr trivial
  have hjo':some jn=o∨∀ j,some jn=some j→(g++g3).length≤j:=by
   rcases hjn with h1 | h1
   ·exact .inl h1
   ·exact .inr fun j e=>by cases e;omega
  have hg3l:g3.length=g2.length:=by rw [← hg3];simp
  have hrowN:RowAt (σ.length+2) g' (some jn) (.arr 1 (σ.length+2+g.length+jo) 0 k) m:=by
   refine ⟨g.length+jo,Ya (R.drop k),by rw [hml,Nat.add_assoc (σ.length+2)],fun e=>?_,?_⟩
   ·rcases hjn with h1 | h1
    ·have:=hol _ h1.symm;have:=Option.some.inj e;omega
    ·have:=Option.some.inj e;simp at h1;omega
   ·rw [hkeep _ (fun e=>by have:=hol _ e.symm;omega) (by simp;omega),Qzr (by omega),Nat.add_sub_cancel_left,← hg3]
    simp [hjl]
  have hmr:m.Pairwise (·<·):=Xb7 hms (hmp.nodup_iff.2 (hRn.sublist (List.take_sublist _ _)))
  have hok:Ntc.Ok men ⟨tm,m⟩:=⟨t1,by show tm≤3;omega,by show tm≤(m.length:Int);omega,hmr,fun x hx=>hRm x (List.mem_of_mem_take (hmp.mem_iff.1 hx))⟩
  exact ⟨⟨_,i+1,_,L++[(⟨tm,m⟩,.arr 1 (σ.length+2+g.length+jo) 0 k)],g',some jn,a6,c6,rfl,by simp [hl2],by simp [hl2,g0],by simp [hl2,g6],by simp [hl2,g7],by simp [hl2,g15],by simp [hl2],hlt,by simp [hLl],by simp,ha6,hA'.base (by simp [hS6l]),fun p hp=>by
   rcases List.mem_append.1 hp with hp | hp
   ·exact ⟨(hL p hp).1,((hL p hp).2.more g3).kept hkeep hjo'⟩
   ·rw [List.mem_singleton.1 hp]
    exact ⟨hok,hrowN⟩⟩,by omega⟩
 ·obtain rfl:i=n:=by omega
  have hS1:(S++g).set σ.length (.cells [.int .i64 men,v])=σ.set d (Yc l a3 c3)++(AObj.cells [.int .i64 men,v]::AObj.cells [.int .i64 men,v]::g):=by rw [← hS];simp
  have hS0:(S++g)[σ.length]? = some zRl:=by rw [← hS];simp
  have hv1:v.one=true:=by
   have:=hA.val
   cases o with
   | none=>rw [this.1];rfl
   | some j=>rw [this.1];rfl
  rw [hS]
  simp [-Xa,hl2,g0,g6,g7,g15,g16,hSm0,hS0,zRl]
  rw [if_pos (by exact hv1),Wl,hS1]
  simp [-Xa]
  obtain ⟨S9,hS9⟩:∃ x,σ.set d (Yc l a3 c3)++[AObj.cells [.int .i64 men,v],.cells [.int .i64 men,v]]=x:=⟨_,rfl⟩
  have hS9l:S9.length=σ.length+2:=by rw [← hS9];simp
  have hA9:Acc S9 g 2 v (L.map fun p=>AV.agg [.int .i64 p.1.times,p.2]) o:=hA.base (by simp [hS9l])
  obtain ⟨h1,h2⟩:=Zfa (fun p:Ntc × AV=>AV.agg [.int .i64 p.1.times,p.2]) (fun p=>Ub p.1) (Vw (MdP S9.length o) (S9++g)) L fun p hp=>by
   obtain ⟨_,hrw⟩:=hL p hp
   refine ⟨rfl,fun j a b ha hb=>?_⟩
   match j,ha,hb with
   | 0,ha,hb=>simp [Ub,AV.cells] at ha hb;subst ha;subst hb;exact .inl rfl
   | 1,ha,hb =>
    simp [Ub,AV.cells] at ha hb
    subst ha;subst hb
    rw [← hS9l] at hrw
    exact hrw.vwM
   | j+2,ha,hb=>simp [Ub,AV.cells] at ha
  obtain ⟨g9,hg9,hV9,hA99⟩:=View.accF (L':=L.map fun p=>Ub p.1) hA9 (by simp) (fun y hy=>by
   obtain ⟨p,_,rfl⟩:=List.mem_map.1 hy
   exact ⟨rfl,fun z hz=>by simp [Ub,AV.cells] at hz;rcases hz with rfl | rfl<;>rfl⟩) h1.symm h2
  have hpre:σ.set d (Yc l a3 c3)++AObj.cells [AV.int IntKind.i64 men,v]::AObj.cells [AV.int IntKind.i64 men,v]::g=S9++g:=by rw [← hS9];simp
  rw [hpre]
  refine ⟨_,_,hV9,_,.inl rfl,⟨men,L.map Prod.fst⟩,a3,c3,v,rfl,⟨by show 1≤(men:Int);omega,by show (men:Int)≤5;omega,by simp;omega,fun n hn=>?_⟩,m2,by simp;omega,ha3,[AObj.cells [.int .i64 men,v],.cells [.int .i64 men,v]]++g9,by rw [← hS9];simp,o.map (2+·),?_⟩
  ·obtain ⟨p,hp,rfl⟩:=List.mem_map.1 hn
   exact (hL p hp).1
  ·refine ⟨?_,?_⟩
   ·intro y hy
    refine hA99.len y ?_
    simpa [List.map_map,Function.comp_def] using hy
   ·have hv:=hA99.val
    cases o with
    | none =>
     refine ⟨hv.1,?_⟩
     have:=hv.2
     simpa using this
    | some j =>
     refine ⟨by rw [hv.1,hS9l];simp;omega,?_⟩
     rw [show ([AObj.cells [.int .i64 men,v],.cells [.int .i64 men,v]]++g9)[2+j]? = g9[j]? by rw [Nat.add_comm];rfl,hv.2]
     simp [List.map_map,Function.comp_def]
end Ab

/-
  Texts packed for a claim.
-/
import Derived.Test.YtdifgaapdnbliaaGreatDoorS00
import Derived.Test.YtdifgaapdnbliaaGreatDoorS16
import Derived.Test.YtdifgaapdnbliaaGreatDoorS21
import Derived.Test.YtdifgaapdnbliaaGreatDoorS17
import Derived.Test.YtdifgaapdnbliaaGreatDoorS22
set_option linter.all false
namespace Oyez
theorem st_eq (x y:St):x=y↔x.isSome=y.isSome∧x.getD []=y.getD []:=by
 cases x<;>cases y<;>simp
def upTo (k n:Nat):List Place:=allPlaces.take (1000*k+n)
theorem Zbx:allPlaces.length=5000:=by
 unfold allPlaces
 rw [List.length_flatMap]
 simp
 rfl
theorem Wde {α:Type} (g:Nat→Nat→α):∀ (m k n:Nat),k<m→n<1000→((List.range m).flatMap fun k=>(List.range 1000).map fun n=>g k n)[1000*k+n]? = some (g k n):=by
 intro m
 induction m with
 | zero=>intro k n h;omega
 | succ m ih =>
  intro k n hk hn
  rw [List.range_succ (n:=m),List.flatMap_append]
  have hl:((List.range m).flatMap fun k=>(List.range 1000).map fun n=>g k n).length=1000*m:=by
   rw [List.length_flatMap]
   simp [List.map_const',List.sum_replicate_nat]
   omega
  rcases Qzn k m with h | h
  ·rw [Qzl (by omega),ih k n h hn]
  ·obtain rfl:k=m:=by omega
   rw [Qzr (by omega),hl]
   simp only [List.flatMap_cons,List.flatMap_nil,List.append_nil]
   rw [show 1000*k+n - 1000*k=n by omega,Qzp,List.getElem?_range hn]
   rfl
theorem Wd6 {k n:Nat} (hk:k<5) (hn:n<1000):allPlaces[1000*k+n]? = some ⟨k,n⟩:=Wde (fun (k n:Nat)=>(⟨(k:Int),(n:Int)⟩:Place)) 5 k n hk hn
theorem upTo_snoc {k n:Nat} (hk:k<5) (hn:n<1000):upTo k (n+1)=upTo k n++[⟨k,n⟩]:=by
 unfold upTo
 have h:=Wd6 hk hn
 obtain ⟨h1,h2⟩:=Qzs.1 h
 rw [← Nat.add_assoc,Qzt h1,h2]
theorem upTo_row (k:Nat):upTo k 1000=upTo (k+1) 0:=by unfold upTo;congr 1
theorem upTo_all:upTo 5 0=allPlaces:=by
 unfold upTo
 exact List.take_of_length_le (by rw [Zbx];omega)
theorem upTo_len (k n:Nat):(upTo k n).length≤5000:=by
 unfold upTo
 rw [List.length_take,Zbx]
 omega
def joinTo (base a b:List Rec) (second:List Bool) (k n:Nat):Jn:=(upTo k n).foldl (Uk base a b second) ⟨[],[]⟩
theorem joinTo_snoc (base a b:List Rec) (second:List Bool) {k n:Nat} (hk:k<5) (hn:n<1000):joinTo base a b second k (n+1)=Uk base a b second (joinTo base a b second k n) ⟨k,n⟩:=by
 unfold joinTo
 rw [upTo_snoc hk hn,List.foldl_append]
 rfl
theorem Ycm (base a b:List Rec) (s:List Bool):∀ (l:List Place) (x:Jn),(l.foldl (Uk base a b s) x).out.length≤x.out.length+l.length∧(l.foldl (Uk base a b s) x).conf.length≤x.conf.length+l.length:=by
 intro l
 induction l with
 | nil=>intro x;simp
 | cons p t ih =>
  intro x
  have h1:=ih (Uk base a b s x p)
  have h2:=Vdw base a b s x p
  rw [List.foldl_cons,List.length_cons]
  omega
theorem joinTo_len (base a b:List Rec) (s:List Bool) (k n:Nat):(joinTo base a b s k n).out.length≤5000∧(joinTo base a b s k n).conf.length≤5000:=by
 have h:=Ycm base a b s (upTo k n) ⟨[],[]⟩
 have h2:=upTo_len k n
 simp only [List.length_nil,Nat.zero_add] at h
 unfold joinTo
 omega
end Oyez
namespace Ab
open Go Go.RowKit Go.Proofs
attribute [local irreducible] aws awp aw1 Og Om Oc Oa Ogd Ov Ot awd Ub Zc Wc QFn Zd ACode AYield
set_option maxHeartbeats 1000000 in
theorem Wdl (a b:List (List UInt8)) (ha:a.length≤2^50):APure Tryz.prog 164 [Zb a,Zb b] (.bool (decide (a=b))):=by
 intro σ
 refine Ua Tryz.func164 rfl (Wa Tryz.func164 (by decide) rfl) ?_
 by_cases hab:a.length=b.length
 ·obtain ⟨n,hn⟩:∃ n,b.length=n:=⟨_,rfl⟩
  have han:a.length=n:=hab.trans hn
  simp [Tryz.ntmps164,han,hn]
  refine Yc (fun env σ'=>∃ (u:List AV) (i:Nat),env={ t:=u }∧u.length=26∧tg u 0=Zb a∧tg u 1=Zb b∧tg u 5=.int .i64 i∧σ'=σ∧i≤n∧a.take i=b.take i)
   (fun env _=>match tg env.t 5 with | .int _ i=>n - i.toNat | _=>0) ⟨_,0,rfl,by simp,by simp,by simp,by simp,rfl,by omega,by simp⟩ ?_
  rintro env σ' ⟨u,i,rfl,hl,g0,g1,g5,rfl,hi,hd⟩
  rcases Qzn i n with hlt | hge
  ·have hlt':(i:Int)<(n:Int):=by omega
   have hx:=w64 (n:=(i:Int)+1) (by omega) (by omega)
   have hia:i<a.length:=by omega
   have hib:i<b.length:=by omega
   simp [hl,g0,g1,g5,hlt',han]
   refine Zg mixed (by kernel_rfl) ?_
   by_cases he:a[i]=b[i]
   ·simp [hl,g0,g1,g5,han,hn,hlt,hlt',he,hx]
    refine ⟨⟨i+1,by simp,by omega,?_⟩,by omega⟩
    rw [Qzt hia,Qzt hib,hd,he]
   ·have hne:¬ a=b:=fun h=>he (by subst h;rfl)
    simp [hl,g0,g1,g5,han,hn,hlt,hlt',he,hne]
  ·have hge':¬ (i:Int)<(n:Int):=by omega
   have hE:a=b:=by
    rw [List.take_of_length_le (by omega),List.take_of_length_le (by omega)] at hd
    exact hd
   have hge2:¬ i<n:=by omega
   subst hE
   simp [hl,g0,g1,g5,hge',hge2,hn]
 ·have hne:¬ a=b:=fun h=>hab (by rw [h])
  have hab':¬ (a.length:Int)=(b.length:Int):=by omega
  simp [Tryz.ntmps164,hab',hne,hab]
theorem Uah (x y:Oyez.St) (hx:(Xb x).length≤2^50):APure Tryz.prog 98 [Zb (Xb x),.bool x.isSome,Zb (Xb y),.bool y.isSome] (.bool (decide (x=y))):=by
 intro σ
 refine Ua Tryz.func98 rfl (Wa Tryz.func98 (by decide) rfl) ?_
 by_cases h:x.isSome=y.isSome
 ·have e:decide (x=y)=decide (Xb x=Xb y):=by
   rw [decide_eq_decide,Oyez.st_eq]
   simp [h,Xb]
  simp [Tryz.ntmps98,h]
  refine (Wdl _ _ hx).use ?_
  simp [e]
 ·have e:¬ x=y:=fun e=>h (by rw [e])
  have hb:(x.isSome == y.isSome)=false:=by simpa using h
  simp [Tryz.ntmps98,hb,e]
def Ze (c:Oyez.Chg):AV:=.agg [.int .i64 c.kind,.int .i64 c.number,.bool c.had,.bool c.has,Zb c.old,Zb c.new]
def Wb (l:List Oyez.Chg):AV:=.pl 6 (l.map Ze)
attribute [simp] Ze Wb
end Ab
namespace Oyez
def putJ (J:Jn) (p:Place) (w:St):Jn:=⟨match w with | some ws=>J.out++[⟨p.kind,p.number,ws⟩] | none=>J.out,J.conf⟩
def pickJ (second:List Bool) (i:Nat) (x y z:St):St:=match second[i]? with | none=>x | some c=>if c then z else y
def stepJ (x y z:St) (second:List Bool) (p:Place) (J:Jn):Jn :=
 if y=z∨z=x then putJ J p y else if y=x then putJ J p z else putJ ⟨J.out,J.conf++[chg p y z]⟩ p (pickJ second J.conf.length x y z)
theorem joinAt_step (base a b:List Rec) (second:List Bool) (J:Jn) (p:Place):Uk base a b second J p=stepJ (getIn base p) (getIn a p) (getIn b p) second p J:=rfl
theorem stepJ_same {x y z:St} {second:List Bool} {p:Place} {J:Jn} (h:y=z):stepJ x y z second p J=putJ J p y:=if_pos (.inl h)
theorem stepJ_zx {x y z:St} {second:List Bool} {p:Place} {J:Jn} (h:z=x):stepJ x y z second p J=putJ J p y:=if_pos (.inr h)
theorem stepJ_yx {x y z:St} {second:List Bool} {p:Place} {J:Jn} (h:¬ y=z) (h2:y=x):stepJ x y z second p J=putJ J p z:=by
 unfold stepJ
 rw [if_neg,if_pos h2]
 rintro (h3 | h3)
 ·exact h h3
 ·exact h (h2.trans h3.symm)
theorem stepJ_clash {x y z:St} {second:List Bool} {p:Place} {J:Jn} (h:¬ y=z) (h2:¬ y=x) (h3:¬ z=x):stepJ x y z second p J=putJ ⟨J.out,J.conf++[chg p y z]⟩ p (pickJ second J.conf.length x y z):=by
 unfold stepJ
 rw [if_neg (by rintro (h4 | h4);exact h h4;exact h3 h4),if_neg h2]
end Oyez
namespace Ab
open Go Go.RowKit Go.Proofs
attribute [local irreducible] aws awp aw1 Og Om Oc Oa Ogd Ov Ot awd Ub Zc Wc QFn Zd ACode AYield
def Wd (c:Oyez.Chg):List AV:=[.int .i64 c.kind,.int .i64 c.number,.bool c.had,.bool c.has,Zb c.old,Zb c.new]
structure JS (σ:Za) (J:Oyez.Jn) (v1 v2:AV) (g:Za):Prop where
 ex:∃ o1 o2,Acc σ g 3 v1 (J.out.map Yd) o1∧Acc σ g 6 v2 (J.conf.map Ze) o2∧∀ j,o1=some j→o2=some j→False
theorem Acc.lt {σ g:Za} {k:Nat} {v:AV} {l:List AV} {j:Nat} (h:Acc σ g k v l (some j)):j<g.length:=(Qzs.1 h.val.2).1
theorem Acc.keep {σ g g':Za} {k:Nat} {v:AV} {l:List AV} {o:Option Nat} (h:Acc σ g k v l o) (hk:∀ j,o=some j→g'[j]? = g[j]?):Acc σ g' k v l o:=⟨h.len,by
 have hv:=h.val
 cases o with
 | none=>exact hv
 | some j=>exact ⟨hv.1,by rw [hk j rfl];exact hv.2⟩⟩
theorem JS.put {σ:Za} {J:Oyez.Jn} {v1 v2:AV} {g:Za} (h:JS σ J v1 v2 g) (hl:J.out.length≤2^40) (r:Oyez.Rec) :
  ∃ v1' g',Ya Tryz.prog #[27,27] v1 (.arr 3 (σ.length+g.length) 0 1) (σ++(g++[.cells (Uf r)]))=some (v1',σ++g')∧JS σ ⟨J.out++[r],J.conf⟩ v1' v2 g':=by
 obtain ⟨o1,o2,h1,h2,h3⟩:=h.ex
 obtain ⟨v',g',o',he,hA',hgl,hkeep,ho⟩:=h1.push (P:=Tryz.prog) (t:=27) (e:=96) (ag:=true) (x:=Yd r) (by simp) (by simp) (by simp) (by omega) ⟨by simp [AV.cells],by simp [AV.cells,AV.one]⟩ (by simp;omega)
 refine ⟨v',g',he,⟨o',o2,by simpa using hA',h2.keep fun j hj=>?_,fun j hj hj2=>?_⟩⟩
 ·subst hj
  exact hkeep j (fun e=>h3 j e.symm rfl) h2.lt
 ·subst hj2
  have hlt:=h2.lt
  rcases ho with rfl | ⟨m,hm,rfl⟩
  ·exact h3 j hj rfl
  ·simp only [Option.some.injEq] at hj;omega
theorem JS.clash {σ:Za} {J:Oyez.Jn} {v1 v2:AV} {g:Za} (h:JS σ J v1 v2 g) (hl:J.conf.length≤2^40) (c:Oyez.Chg) :
  ∃ v2' g',Ya Tryz.prog #[44,44] v2 (.arr 6 (σ.length+g.length) 0 1) (σ++(g++[.cells (Wd c)]))=some (v2',σ++g')∧JS σ ⟨J.out,J.conf++[c]⟩ v1 v2' g':=by
 obtain ⟨o1,o2,h1,h2,h3⟩:=h.ex
 obtain ⟨v',g',o',he,hA',hgl,hkeep,ho⟩:=h2.push (P:=Tryz.prog) (t:=44) (e:=57) (ag:=true) (x:=Ze c) (by simp) (by simp) (by simp) (by omega) ⟨by simp [AV.cells],by simp [AV.cells,AV.one]⟩ (by simp;omega)
 refine ⟨v',g',he,⟨o1,o',h1.keep fun j hj=>?_,by simpa using hA',fun j hj hj2=>?_⟩⟩
 ·subst hj
  exact hkeep j (fun e=>h3 j rfl e.symm) h1.lt
 ·subst hj
  have hlt:=h1.lt
  rcases ho with rfl | ⟨m,hm,rfl⟩
  ·exact h3 j rfl hj2
  ·simp only [Option.some.injEq] at hj2;omega
theorem JS.len {σ:Za} {J:Oyez.Jn} {v1 v2:AV} {g:Za} (h:JS σ J v1 v2 g):Vb Tryz.prog 44 v2 (σ++g)=some (.int .i64 J.conf.length):=by
 obtain ⟨o1,o2,h1,h2,h3⟩:=h.ex
 have hv:=h2.val
 cases o2 with
 | none =>
  obtain ⟨rfl,hl⟩:=hv
  have:J.conf=[]:=by simpa using hl
  simp [this]
 | some j =>
  obtain ⟨rfl,_⟩:=hv
  simp
theorem Zy (n:Nat) (σ:Za) (l:List Oyez.Chg):∀ x∈l.map Ze,∀ y∈x.cells,Fz n σ y y:=fun x hx y hy=>by
 obtain ⟨r,_,rfl⟩:=List.mem_map.1 hx
 simp [AV.cells] at hy
 rcases hy with rfl | rfl | rfl | rfl | rfl | rfl
 ·exact .int _ _
 ·exact .int _ _
 ·exact .bool _
 ·exact .bool _
 ·exact (Xr _ _ _).2 trivial
 ·exact (Xr _ _ _).2 trivial
end Ab
namespace Ab
open Go Go.RowKit Go.Proofs
attribute [local irreducible] aws awp aw1 Og Om Oc Oa Ogd Ov Ot awd Ub awh Xc Ogh Ohd awl Ogl Ohl awv Ogv Ohv Zc Wc QFn Zd QRo QBe ACode AYield
def Ux (l:List Oyez.Chg):Bool:=l.any (fun c=>Zi c.old||Zi c.new)||decide (90<l.length)
set_option maxHeartbeats 2000000 in
theorem Ubb (l:List Oyez.Chg) (hl0:l.length≤9223372036854775807) (hw:∀ c∈l,c.old.length≤9223372036854775807∧c.new.length≤9223372036854775807):APure Tryz.prog 36 [Wb l] (.bool (Ux l)):=by
 refine APure.of fun σ=>?_
 obtain ⟨B,hB⟩:∃ B,Ux l=B:=⟨_,rfl⟩
 rw [hB]
 refine Ua Tryz.func36 rfl (Wa Tryz.func36 (by decide) rfl) ?_
 simp [Tryz.ntmps36]
 refine Yc (fun env σ'=>∃ (u:List AV) (i:Nat) (g:Za),env={ t:=u }∧u.length=23∧tg u 0=Wb l∧tg u 5=Wb l∧tg u 6=.int .i64 l.length∧tg u 7=.int .i64 i∧σ'=σ++g∧i≤l.length∧(l.take i).any (fun c=>Zi c.old||Zi c.new)=false)
  (fun env _=>match tg env.t 7 with | .int _ i=>l.length - i.toNat | _=>0) ⟨_,0,[],rfl,by simp,by simp,by simp,by simp,by simp,by simp,by omega,by simp⟩ ?_
 rintro env σ' ⟨u,i,g,rfl,hl,g0,g5,g6,g7,rfl,hi,hd⟩
 rcases Qzn i l.length with hlt | hge
 ·have hlt':(i:Int)<(l.length:Int):=by omega
  have hx:=w64 (n:=(i:Int)+1) (by omega) (by omega)
  have hn:=Wbp _ l hlt hd
  have hwi:=hw _ (List.getElem_mem hlt)
  simp [hl,g0,g5,g6,g7,hlt',hlt]
  refine (Ya2 l[i].old hwi.1).use ?_
  cases hb:Zi l[i].old with
  | true =>
   have e:B=true:=by
    rw [← hB];unfold Ux
    rw [Za8 (fun c:Oyez.Chg=>Zi c.old||Zi c.new) l hlt (by simp [hb])]
    rfl
   subst e
   simp [hl,g0,g5,g6,g7,hlt',hlt,hb]
  | false =>
   simp [hl,g0,g5,g6,g7,hlt',hlt,hb]
   refine (Ya2 l[i].new hwi.2).use ?_
   cases hb2:Zi l[i].new with
   | true =>
    have e:B=true:=by
     rw [← hB];unfold Ux
     rw [Za8 (fun c:Oyez.Chg=>Zi c.old||Zi c.new) l hlt (by simp [hb2])]
     rfl
    subst e
    simp [hl,g0,g5,g6,g7,hlt',hlt,hb,hb2]
   | false =>
    simp [hl,g0,g5,g6,g7,hlt',hlt,hb,hb2,hx]
    have hn':=hn.trans (show (Zi l[i].old||Zi l[i].new)=false by simp [hb,hb2])
    exact ⟨⟨i+1,by simp,by omega,by simpa using hn'⟩,by omega⟩
 ·have hge':¬ (i:Int)<(l.length:Int):=by omega
  rw [List.take_of_length_le hge] at hd
  unfold Ux at hB
  rw [hd] at hB
  by_cases h10:90<l.length
  ·have h10':(90:Int)<(l.length:Int):=by omega
   have e:B=true:=by rw [← hB];simp [h10]
   subst e
   simp [hl,g0,g5,g6,g7,hge',h10,h10']
  ·have h10':¬ (90:Int)<(l.length:Int):=by omega
   have e:B=false:=by rw [← hB];simp;omega
   subst e
   simp [hl,g0,g5,g6,g7,hge',h10,h10']
set_option maxHeartbeats 4000000 in
theorem Ubn (l:List Oyez.Chg) (hf:l.length≤2^40):APure Tryz.prog 38 [Wb l] (Wb l):=by
 refine APure.of fun σ=>?_
 refine Ua Tryz.func38 rfl (Wa Tryz.func38 (by decide) rfl) ?_
 simp [Tryz.ntmps38]
 refine Yc (fun env σ'=>∃ (u:List AV) (i:Nat) (v:AV) (g:Za) (o:Option Nat),env={ t:=u }∧u.length=30∧tg u 0=Wb l∧tg u 3=v∧tg u 6=Wb l∧tg u 7=.int .i64 l.length∧tg u 8=.int .i64 i∧σ'=σ++g∧i≤l.length∧Acc σ g 6 v ((l.take i).map Ze) o)
  (fun env _=>match tg env.t 8 with | .int _ i=>l.length - i.toNat | _=>0) ⟨_,0,.nils,[],none,rfl,by simp,by simp,by simp,by simp,by simp,by simp,by simp,by omega,by simpa using Acc.nil _ _ _⟩ ?_
 rintro env σ' ⟨u,i,v,g,o,rfl,hl,g0,g3,g6,g7,g8,rfl,hi,hA⟩
 rcases Qzn i l.length with hlt | hge
 ·have hlt':(i:Int)<(l.length:Int):=by omega
  have hx:=w64 (n:=(i:Int)+1) (by omega) (by omega)
  have hA1:=((hA.more [.cells (Wd l[i])]).push (P:=Tryz.prog) (t:=44) (e:=57) (ag:=true) (x:=Ze l[i]) (by simp) (by simp) (by simp) (by omega) ⟨by simp [AV.cells],by simp [AV.cells,AV.one]⟩ (by simp;omega))
  obtain ⟨v',g',o',he,hA',_⟩:=hA1
  simp [-Ya,Wd] at he
  rw [← Nat.add_assoc] at he
  simp [-Ya,hl,g0,g3,g6,g7,g8,hlt',hlt,hx,he]
  refine ⟨⟨i+1,by simp,hlt,o',?_⟩,by omega⟩
  rw [Qzt (by simpa using hlt),List.getElem_map,← List.map_take]
  exact hA'
 ·have hge':¬ (i:Int)<(l.length:Int):=by omega
  rw [List.take_of_length_le hge] at hA
  have hz:=hA.fz (Zy _ _ _)
  simpa [hl,g0,g3,g6,g7,g8,hge'] using hz
set_option maxHeartbeats 4000000 in
theorem Wb8 (l:List Oyez.Chg) (hf:l.length≤2^40):APure Tryz.prog 43 [Wb l] (Wb l):=by
 refine APure.of fun σ=>?_
 refine Ua Tryz.func43 rfl (Wa Tryz.func43 (by decide) rfl) ?_
 simp [Tryz.ntmps43]
 refine Yc (fun env σ'=>∃ (u:List AV) (i:Nat) (v:AV) (g:Za) (o:Option Nat),env={ t:=u }∧u.length=30∧tg u 0=Wb l∧tg u 3=v∧tg u 6=Wb l∧tg u 7=.int .i64 l.length∧tg u 8=.int .i64 i∧σ'=σ++g∧i≤l.length∧Acc σ g 6 v ((l.take i).map Ze) o)
  (fun env _=>match tg env.t 8 with | .int _ i=>l.length - i.toNat | _=>0) ⟨_,0,.nils,[],none,rfl,by simp,by simp,by simp,by simp,by simp,by simp,by simp,by omega,by simpa using Acc.nil _ _ _⟩ ?_
 rintro env σ' ⟨u,i,v,g,o,rfl,hl,g0,g3,g6,g7,g8,rfl,hi,hA⟩
 rcases Qzn i l.length with hlt | hge
 ·have hlt':(i:Int)<(l.length:Int):=by omega
  have hx:=w64 (n:=(i:Int)+1) (by omega) (by omega)
  have hA1:=((hA.more [.cells (Wd l[i])]).push (P:=Tryz.prog) (t:=62) (e:=74) (ag:=true) (x:=Ze l[i]) (by simp) (by simp) (by simp) (by omega) ⟨by simp [AV.cells],by simp [AV.cells,AV.one]⟩ (by simp;omega))
  obtain ⟨v',g',o',he,hA',_⟩:=hA1
  simp [-Ya,Wd] at he
  rw [← Nat.add_assoc] at he
  simp [-Ya,hl,g0,g3,g6,g7,g8,hlt',hlt,hx,he]
  refine ⟨⟨i+1,by simp,hlt,o',?_⟩,by omega⟩
  rw [Qzt (by simpa using hlt),List.getElem_map,← List.map_take]
  exact hA'
 ·have hge':¬ (i:Int)<(l.length:Int):=by omega
  rw [List.take_of_length_le hge] at hA
  have hz:=hA.fz (Zy _ _ _)
  simpa [hl,g0,g3,g6,g7,g8,hge'] using hz
theorem Ydy {r q:Oyez.Chg} (h1:r.kind=q.kind) (h2:r.number=q.number) (h3:r.had=q.had) (h4:r.has=q.has) (h5:r.old=q.old) (h6:r.new=q.new):r=q:=by
 cases r;cases q;simp_all
set_option maxHeartbeats 8000000 in
theorem Va9 (a b:List Oyez.Chg) (ha:a.length≤2^40) (hw:∀ c∈a,c.old.length≤2^40∧c.new.length≤2^40):APure Tryz.prog 42 [Wb a,Wb b] (.bool (decide (a=b))):=by
 refine APure.of fun σ=>?_
 refine Ua Tryz.func42 rfl (Wa Tryz.func42 (by decide) rfl) ?_
 by_cases hab:a.length=b.length
 ·obtain ⟨n,hn⟩:∃ n,b.length=n:=⟨_,rfl⟩
  have han:a.length=n:=hab.trans hn
  simp [Tryz.ntmps42,han,hn]
  refine Yc (fun env σ'=>∃ (u:List AV) (i:Nat) (g:Za),env={ t:=u }∧u.length=67∧tg u 0=Wb a∧tg u 1=Wb b∧tg u 13=Wb a∧tg u 14=.int .i64 n∧tg u 15=.int .i64 i∧σ'=σ++g∧i≤n∧a.take i=b.take i)
   (fun env _=>match tg env.t 15 with | .int _ i=>n - i.toNat | _=>0) ⟨_,0,[],rfl,by simp,by simp,by simp,by simp,by simp,by simp,by simp,by omega,by simp⟩ ?_
  rintro env σ' ⟨u,i,g,rfl,hl,g0,g1,g13,g14,g15,rfl,hi,hd⟩
  rcases Qzn i n with hlt | hge
  ·have hlt':(i:Int)<(n:Int):=by omega
   have hx:=w64 (n:=(i:Int)+1) (by omega) (by omega)
   have hia:i<a.length:=by omega
   have hib:i<b.length:=by omega
   have hwi:=hw _ (List.getElem_mem hia)
   have hne:¬ a[i]=b[i]→¬ a=b:=fun he h=>he (by subst h;rfl)
   by_cases hk:a[i].kind=b[i].kind
   case neg =>
    have hne':=hne fun h=>hk (by rw [h])
    simp [hl,g0,g1,g13,g14,g15,hlt',han,hn,hlt,hk,hne']
   by_cases hm:a[i].number=b[i].number
   case neg =>
    have hne':=hne fun h=>hm (by rw [h])
    simp [hl,g0,g1,g13,g14,g15,hlt',han,hn,hlt,hk,hm,hne']
   by_cases h3:a[i].had=b[i].had
   case neg =>
    have hne':=hne fun h=>h3 (by rw [h])
    have hbb:(a[i].had != b[i].had)=true:=by simpa using h3
    simp [hbb,hl,g0,g1,g13,g14,g15,hlt',han,hn,hlt,hk,hm,h3,hne']
   by_cases h4:a[i].has=b[i].has
   case neg =>
    have hne':=hne fun h=>h4 (by rw [h])
    have hbb:(a[i].has != b[i].has)=true:=by simpa using h4
    simp [hbb,hl,g0,g1,g13,g14,g15,hlt',han,hn,hlt,hk,hm,h3,h4,hne']
   simp [Nat.add_assoc,hl,g0,g1,g13,g14,g15,hlt',han,hn,hlt,hk,hm,h3,h4]
   refine (Ua6 _ _ hwi.1).use ?_
   by_cases h5:a[i].old=b[i].old
   case neg =>
    have hne':=hne fun h=>h5 (by rw [h])
    simp [Nat.add_assoc,hl,g0,g1,g13,g14,g15,hlt',han,hn,hlt,hk,hm,h3,h4,h5,hne']
   simp [Nat.add_assoc,hl,g0,g1,g13,g14,g15,hlt',han,hn,hlt,hk,hm,h3,h4,h5]
   refine (Ua6 _ _ hwi.2).use ?_
   by_cases h6:a[i].new=b[i].new
   case neg =>
    have hne':=hne fun h=>h6 (by rw [h])
    simp [Nat.add_assoc,hl,g0,g1,g13,g14,g15,hlt',han,hn,hlt,hk,hm,h3,h4,h5,h6,hne']
   have he:=Ydy hk hm h3 h4 h5 h6
   simp [Nat.add_assoc,hl,g0,g1,g13,g14,g15,hlt',han,hn,hlt,hk,hm,h3,h4,h5,h6,hx]
   refine ⟨⟨i+1,by simp,hlt,?_⟩,by omega⟩
   rw [Qzt hia,Qzt hib,hd,he]
  ·have hge':¬ (i:Int)<(n:Int):=by omega
   have hE:a=b:=by
    rw [List.take_of_length_le (by omega),List.take_of_length_le (by omega)] at hd
    exact hd
   simp [hl,g0,g1,g13,g14,g15,hge',hE]
 ·have hne:¬ a=b:=fun h=>hab (by rw [h])
  have hab':¬ (a.length:Int)=(b.length:Int):=by omega
  simp [Tryz.ntmps42,hab',hne,hab]
end Ab
namespace Ab
open Go Go.RowKit Go.Proofs
attribute [local irreducible] aws awp aw1 Og Om Oc Oa Ogd Ov Ot awd Ub Zc Wc QFn Zd ACode AYield
def Zp (o:Option (List Bool)):AV:=match o with | none=>.nils | some l=>.pl 1 (l.map AV.bool)
set_option maxRecDepth 10000 in
set_option maxHeartbeats 8000000 in
theorem Vcm (base a b:List Oyez.Rec) (sec:Option (List Bool)) (hx:base.length≤2^40) (ha:a.length≤2^40) (hb:b.length≤2^40) (hs:(sec.getD []).length≤2^40)
  (hw:∀ r∈base++a++b,r.words.length≤2^40):APure Tryz.prog 32 [Xa base,Xa a,Xa b,Zp sec] (.tup [Xa (Oyez.joinTo base a b (sec.getD []) 5 0).out,Wb (Oyez.joinTo base a b (sec.getD []) 5 0).conf]):=by
 have hget:∀ (f:List Oyez.Rec) (p:Oyez.Place),(∀ r∈f,r.words.length≤2^40)→(Xb (Oyez.getIn f p)).length≤2^50:=by
  intro f p hf
  unfold Xb Oyez.getIn
  cases h:f.find? (fun r=>decide (r.place=p)) with
  | none=>simp
  | some r =>
   have:=hf r (List.mem_of_find?_eq_some h)
   simp only [Option.map_some,Option.getD_some]
   omega
 have hbase:∀ r∈base,r.words.length≤2^40:=fun r hr=>hw r (by simp [hr])
 have ha':∀ r∈a,r.words.length≤2^40:=fun r hr=>hw r (by simp [hr])
 have hb':∀ r∈b,r.words.length≤2^40:=fun r hr=>hw r (by simp [hr])
 refine APure.of fun σ=>?_
 refine Ua Tryz.func32 rfl (Wa Tryz.func32 (by decide) rfl) ?_
 simp [-Ya,-Vb,Tryz.ntmps32]
 refine Yc (fun env σ'=>∃ (u:List AV) (k:Nat) (v1 v2:AV) (g:Za),env={ t:=u }∧u.length=104∧tg u 0=Xa base∧tg u 1=Xa a∧tg u 2=Xa b∧tg u 3=Zp sec∧tg u 10=v1∧tg u 11=v2∧tg u 12=.int .i64 k∧σ'=σ++g∧k≤5∧JS σ (Oyez.joinTo base a b (sec.getD []) k 0) v1 v2 g)
  (fun env _=>match tg env.t 12 with | .int _ i=>5 - i.toNat | _=>0) ⟨_,0,.nils,.nils,[],rfl,by simp,by simp,by simp,by simp,by simp,by simp,by simp,by simp,by simp,by omega,⟨none,none,Acc.nil _ _ _,Acc.nil _ _ _,fun j h=>by cases h⟩⟩ ?_
 rintro env σ' ⟨u,k,v1,v2,g,rfl,hl,g0,g1,g2,g3,g10,g11,g12,rfl,hk,hJ⟩
 rcases Qzn k 5 with hlt | hge
 ·have hlt':(k:Int)<5:=by omega
  have hxk:=w64 (n:=(k:Int)+1) (by omega) (by omega)
  simp [-Ya,-Vb,hl,g0,g1,g2,g3,g10,g11,g12,hlt',hlt]
  refine Yc (fun env σ'=>∃ (u:List AV) (n:Nat) (v1 v2:AV) (g:Za),env={ t:=u }∧u.length=104∧tg u 0=Xa base∧tg u 1=Xa a∧tg u 2=Xa b∧tg u 3=Zp sec∧tg u 10=v1∧tg u 11=v2∧tg u 12=.int .i64 k∧tg u 13=.int .i64 n∧σ'=σ++g∧n≤1000∧JS σ (Oyez.joinTo base a b (sec.getD []) k n) v1 v2 g)
   (fun env _=>match tg env.t 13 with | .int _ i=>1000 - i.toNat | _=>0) ⟨_,0,v1,v2,g,rfl,by simp [hl],by simp [-Ya,-Vb,hl,g0],by simp [hl,g1],by simp [hl,g2],by simp [hl,g3],by simp [hl,g10],by simp [hl,g11],by simp [hl,g12],by simp [hl],rfl,by omega,hJ⟩ ?_
  clear hJ g0 g1 g2 g3 g10 g11 g12 hl u v1 v2 g
  rintro env σ' ⟨u,n,v1,v2,g,rfl,hl,g0,g1,g2,g3,g10,g11,g12,g13,rfl,hn,hJ⟩
  rcases Qzn n 1000 with hln | hgn
  ·have hln':(n:Int)<1000:=by omega
   have hxn:=w64 (n:=(n:Int)+1) (by omega) (by omega)
   have hstep:=Oyez.joinTo_snoc base a b (sec.getD []) hlt hln
   rw [Oyez.joinAt_step] at hstep
   have hlen:=Oyez.joinTo_len base a b (sec.getD []) k n
   have hlx:=hget base ⟨k,n⟩ hbase
   have hly:=hget a ⟨k,n⟩ ha'
   have hlz:=hget b ⟨k,n⟩ hb'
   obtain ⟨J,hJe⟩:∃ J,Oyez.joinTo base a b (sec.getD []) k n=J:=⟨_,rfl⟩
   obtain ⟨x,hxe⟩:∃ x,Oyez.getIn base ⟨k,n⟩=x:=⟨_,rfl⟩
   obtain ⟨y,hye⟩:∃ x,Oyez.getIn a ⟨k,n⟩=x:=⟨_,rfl⟩
   obtain ⟨z,hze⟩:∃ x,Oyez.getIn b ⟨k,n⟩=x:=⟨_,rfl⟩
   rw [hJe] at hJ hlen
   rw [hJe,hxe,hye,hze] at hstep
   rw [hxe] at hlx
   rw [hye] at hly
   rw [hze] at hlz
   simp [-Ya,-Vb,hl,g0,g1,g2,g3,g10,g11,g12,g13,hln',hln]
   refine (Yad base k n (by omega)).use ?_
   simp [-Ya,-Vb,hl,g0,g1,g2,g3,g10,g11,g12,g13]
   refine (Yad a k n (by omega)).use ?_
   simp [-Ya,-Vb,hl,g0,g1,g2,g3,g10,g11,g12,g13]
   refine (Yad b k n (by omega)).use ?_
   simp [-Ya,-Vb,hl,g0,g1,g2,g3,g10,g11,g12,g13,hxe,hye,hze]
   refine (Uah y z hly).use ?_
   by_cases hyz:y=z
   ·subst hyz
    rw [Oyez.stepJ_same rfl] at hstep
    simp [-Ya,-Vb,hl,g0,g1,g2,g3,g10,g11,g12,g13,hxe,hye,hze]
    cases hW:y with
    | none =>
     rw [hW] at hstep
     simp [-Ya,-Vb,hl,g0,g1,g2,g3,g10,g11,g12,g13,hxe,hye,hze,hxn,Xb,hW]
     exact ⟨⟨n+1,by simp,by omega,by rw [hstep];exact hJ⟩,by omega⟩
    | some ws =>
     rw [hW] at hstep
     obtain ⟨V1,G1,he,hJ2⟩:=hJ.put (by first | omega | (simp only;omega)) ⟨k,n,ws⟩
     simp [-Ya,Uf] at he
     simp [-Ya,-Vb,hl,g0,g1,g2,g3,g10,g11,g12,g13,hxe,hye,hze,hxn,Xb,hW,he]
     exact ⟨⟨n+1,by simp,by omega,by rw [hstep];exact hJ2⟩,by omega⟩
   ·simp [-Ya,-Vb,hl,g0,g1,g2,g3,g10,g11,g12,g13,hxe,hye,hze,hyz]
    refine (Uah y x hly).use ?_
    by_cases hyx:y=x
    ·rw [Oyez.stepJ_yx hyz hyx] at hstep
     simp [-Ya,-Vb,hl,g0,g1,g2,g3,g10,g11,g12,g13,hxe,hye,hze,hyx]
     cases hW:z with
     | none =>
      rw [hW] at hstep
      simp [-Ya,-Vb,hl,g0,g1,g2,g3,g10,g11,g12,g13,hxe,hye,hze,hxn,Xb,hW]
      exact ⟨⟨n+1,by simp,by omega,by rw [hstep];exact hJ⟩,by omega⟩
     | some ws =>
      rw [hW] at hstep
      obtain ⟨V1,G1,he,hJ2⟩:=hJ.put (by first | omega | (simp only;omega)) ⟨k,n,ws⟩
      simp [-Ya,Uf] at he
      simp [-Ya,-Vb,hl,g0,g1,g2,g3,g10,g11,g12,g13,hxe,hye,hze,hxn,Xb,hW,he]
      exact ⟨⟨n+1,by simp,by omega,by rw [hstep];exact hJ2⟩,by omega⟩
    ·simp [-Ya,-Vb,hl,g0,g1,g2,g3,g10,g11,g12,g13,hxe,hye,hze,hyx]
     refine (Uah z x hlz).use ?_
     by_cases hzx:z=x
     ·rw [Oyez.stepJ_zx hzx] at hstep
      simp [-Ya,-Vb,hl,g0,g1,g2,g3,g10,g11,g12,g13,hxe,hye,hze,hzx]
      cases hW:y with
      | none =>
       rw [hW] at hstep
       simp [-Ya,-Vb,hl,g0,g1,g2,g3,g10,g11,g12,g13,hxe,hye,hze,hxn,Xb,hW]
       exact ⟨⟨n+1,by simp,by omega,by rw [hstep];exact hJ⟩,by omega⟩
      | some ws =>
       rw [hW] at hstep
       obtain ⟨V1,G1,he,hJ2⟩:=hJ.put (by first | omega | (simp only;omega)) ⟨k,n,ws⟩
       simp [-Ya,Uf] at he
       simp [-Ya,-Vb,hl,g0,g1,g2,g3,g10,g11,g12,g13,hxe,hye,hze,hxn,Xb,hW,he]
       exact ⟨⟨n+1,by simp,by omega,by rw [hstep];exact hJ2⟩,by omega⟩
     ·rw [Oyez.stepJ_clash hyz hyx hzx] at hstep
      obtain ⟨V2,G2,hc,hJc⟩:=hJ.clash (by omega) (Oyez.chg ⟨k,n⟩ y z)
      have hlV:=hJc.len
      obtain ⟨c,hce⟩:∃ c,Oyez.chg ⟨k,n⟩ y z=c:=⟨_,rfl⟩
      rw [hce] at hstep hJc
      have hwl:=w64 (n:=(J.conf.length:Int)) (by omega) (by omega)
      simp [-Ya,Wd,Oyez.chg] at hc
      simp [-Vb] at hlV
      unfold Oyez.pickJ at hstep
      cases sec with
      | none =>
       have hs0:∀ S,Vb Tryz.prog 37 .nils S=some (.int .i64 0):=fun S=>by simp
       simp at hstep
       simp [-Ya,-Vb,Zp,hl,g0,g1,g2,g3,g10,g11,g12,g13,hxe,hye,hze,hzx,Xb,hc,hlV,hwl,hs0]
       cases hW:x with
       | none =>
        rw [hW] at hstep
        simp [-Ya,-Vb,hl,g0,g1,g2,g3,g10,g11,g12,g13,hxe,hye,hze,hc,hlV,hwl,hs0,Zp,hxn,Xb,hW]
        exact ⟨⟨n+1,by simp,by omega,by rw [hstep];exact hJc⟩,by omega⟩
       | some ws =>
        rw [hW] at hstep
        obtain ⟨V1,G1,he,hJ2⟩:=hJc.put (by first | omega | (simp only;omega)) ⟨k,n,ws⟩
        simp [-Ya,Uf] at he
        simp [-Ya,-Vb,hl,g0,g1,g2,g3,g10,g11,g12,g13,hxe,hye,hze,hc,hlV,hwl,hs0,Zp,hxn,Xb,hW,he]
        exact ⟨⟨n+1,by simp,by omega,by rw [hstep];exact hJ2⟩,by omega⟩
      | some l =>
       have hs1:∀ S,Vb Tryz.prog 37 (.pl 1 (l.map AV.bool)) S=some (.int .i64 l.length):=fun S=>by simp
       rw [Option.getD_some] at hstep
       by_cases hi:J.conf.length<l.length
       ·rw [Qze hi] at hstep
        have hi':¬ l.length≤J.conf.length:=by omega
        cases hcc:l[J.conf.length] with
        | false =>
         rw [hcc] at hstep
         simp at hstep
         simp [-Ya,-Vb,Zp,hl,g0,g1,g2,g3,g10,g11,g12,g13,hxe,hye,hze,hzx,Xb,hc,hlV,hwl,hs1,hi,hi',hcc]
         cases hW:y with
         | none =>
          rw [hW] at hstep
          simp [-Ya,-Vb,hl,g0,g1,g2,g3,g10,g11,g12,g13,hxe,hye,hze,hc,hlV,hwl,hs1,Zp,hxn,Xb,hW]
          exact ⟨⟨n+1,by simp,by omega,by rw [hstep];exact hJc⟩,by omega⟩
         | some ws =>
          rw [hW] at hstep
          obtain ⟨V1,G1,he,hJ2⟩:=hJc.put (by first | omega | (simp only;omega)) ⟨k,n,ws⟩
          simp [-Ya,Uf] at he
          simp [-Ya,-Vb,hl,g0,g1,g2,g3,g10,g11,g12,g13,hxe,hye,hze,hc,hlV,hwl,hs1,Zp,hxn,Xb,hW,he]
          exact ⟨⟨n+1,by simp,by omega,by rw [hstep];exact hJ2⟩,by omega⟩
        | true =>
         rw [hcc] at hstep
         simp at hstep
         simp [-Ya,-Vb,Zp,hl,g0,g1,g2,g3,g10,g11,g12,g13,hxe,hye,hze,hzx,Xb,hc,hlV,hwl,hs1,hi,hi',hcc]
         cases hW:z with
         | none =>
          rw [hW] at hstep
          simp [-Ya,-Vb,hl,g0,g1,g2,g3,g10,g11,g12,g13,hxe,hye,hze,hc,hlV,hwl,hs1,Zp,hxn,Xb,hW]
          exact ⟨⟨n+1,by simp,by omega,by rw [hstep];exact hJc⟩,by omega⟩
         | some ws =>
          rw [hW] at hstep
          obtain ⟨V1,G1,he,hJ2⟩:=hJc.put (by first | omega | (simp only;omega)) ⟨k,n,ws⟩
          simp [-Ya,Uf] at he
          simp [-Ya,-Vb,hl,g0,g1,g2,g3,g10,g11,g12,g13,hxe,hye,hze,hc,hlV,hwl,hs1,Zp,hxn,Xb,hW,he]
          exact ⟨⟨n+1,by simp,by omega,by rw [hstep];exact hJ2⟩,by omega⟩
       ·rw [List.getElem?_eq_none (by omega)] at hstep
        have hi':l.length≤J.conf.length:=by omega
        simp at hstep
        simp [-Ya,-Vb,Zp,hl,g0,g1,g2,g3,g10,g11,g12,g13,hxe,hye,hze,hzx,Xb,hc,hlV,hwl,hs1,hi,hi']
        cases hW:x with
        | none =>
         rw [hW] at hstep
         simp [-Ya,-Vb,hl,g0,g1,g2,g3,g10,g11,g12,g13,hxe,hye,hze,hc,hlV,hwl,hs1,Zp,hxn,Xb,hW]
         exact ⟨⟨n+1,by simp,by omega,by rw [hstep];exact hJc⟩,by omega⟩
        | some ws =>
         rw [hW] at hstep
         obtain ⟨V1,G1,he,hJ2⟩:=hJc.put (by first | omega | (simp only;omega)) ⟨k,n,ws⟩
         simp [-Ya,Uf] at he
         simp [-Ya,-Vb,hl,g0,g1,g2,g3,g10,g11,g12,g13,hxe,hye,hze,hc,hlV,hwl,hs1,Zp,hxn,Xb,hW,he]
         exact ⟨⟨n+1,by simp,by omega,by rw [hstep];exact hJ2⟩,by omega⟩
  ·obtain rfl:n=1000:=by omega
   have e:Oyez.joinTo base a b (sec.getD []) k 1000=Oyez.joinTo base a b (sec.getD []) (k+1) 0:=by
    unfold Oyez.joinTo
    rw [Oyez.upTo_row]
   rw [e] at hJ
   simp [-Ya,-Vb,hl,g0,g1,g2,g3,g10,g11,g12,g13,hxk]
   exact ⟨⟨k+1,by simp,by omega,hJ⟩,by omega⟩
 ·obtain rfl:k=5:=by omega
  simp [-Ya,-Vb,hl,g0,g1,g2,g3,g10,g11,g12]
  obtain ⟨o1,o2,h1,h2,h3⟩:=hJ.ex
  exact ⟨h1.fz (Ya0 _ _ _),h2.fz (Zy _ _ _)⟩
end Ab

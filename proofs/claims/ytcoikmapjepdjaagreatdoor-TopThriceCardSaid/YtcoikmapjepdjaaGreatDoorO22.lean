/-
  Texts packed for a claim.
-/
import Derived.Test.YtcoikmapjepdjaaGreatDoorO00
import Derived.Test.YtcoikmapjepdjaaGreatDoorCards
import Derived.Test.YtcoikmapjepdjaaGreatDoorTie
import Derived.ProofKit
import Derived.OpenShut
import Derived.Lay
import Derived.LaidLaws
import Derived.SevenTiedAt
import Derived.Stop.Joined
import Derived.Deep.DeepHandedRow
import Derived.Lib.LaidTab
import Derived.ChangeSlices
import Derived.Carry
import Derived.Test.YtcoikmapjepdjaaGreatDoorO08
import Derived.Test.YtcoikmapjepdjaaGreatDoorO10
import Derived.Test.YtcoikmapjepdjaaGreatDoorO13
import Derived.Test.YtcoikmapjepdjaaGreatDoorO16
import Derived.Test.YtcoikmapjepdjaaGreatDoorO21
set_option linter.all false
namespace Ab
open Go Go.RowKit Go.Proofs Go.ChangeShapes Go.WideShapes Go.ChangeAt
theorem Uby {P:Program} {W:World} {ps:List MemPlace} {x:String × DataW Unit} {rest:List (String × DataW Unit)} (h:DataW.LaidVars P W (x::rest) ps) {g:Nat} {t:TypeId} (hg:P.globalNamed x.1=some g) (ht:(P.globals[g]?).map (·.type)=some t) :
  (∃ cs fuel p,W.var? P x.1=some cs∧DataW.trod (fun _=>()) P W 0 (fun _=>true) false fuel t cs.toList=some (x.2,p))∧∃ q,DataW.LaidVars P W rest q:=by
 obtain ⟨g',t',cs,fuel,p,q,hg',ht',hvar,hd,h2,_⟩:=h
 obtain rfl:=Option.some.inj (hg.symm.trans hg')
 obtain rfl:=Option.some.inj (ht.symm.trans ht')
 exact ⟨⟨cs,fuel,p,hvar,hd⟩,q,h2⟩
theorem Wb9 {P:Program} {W:World} {ps:List MemPlace} {x:String × DataW Unit} {rest:List (String × DataW Unit)} (h:DataW.LaidVars P W (x::rest) ps):∃ q,DataW.LaidVars P W rest q:=by
 obtain ⟨g',t',cs,fuel,p,q,hg',ht',hvar,hd,h2,_⟩:=h
 exact ⟨q,h2⟩
theorem Zcw {P:Program} {W:World} {t:TypeId} {ms:Array (String × TypeId)} {s nm:String} {d:DataW Unit} {fuel:Nat} {p:List MemPlace} {cs:Array Value} (hi:P.underlying t=some (.interface ms)) (hv:W.var? P s=some cs)
  (hd:DataW.trod (fun _=>()) P W 0 (fun _=>true) false fuel t cs.toList=some (.iface nm d,p)):∃ (tp:TypeId) (q:Value),W.var? P s=some #[.iface tp q]:=by
 obtain ⟨_,u,v,he,_⟩:=iface_of_trod hi hd
 refine ⟨u,v,?_⟩
 rw [hv,← Array.toList_inj.1 (show cs.toList=#[Value.iface u v].toList from he)]
theorem Ue4 {W:World} {ps:List MemPlace} {x y:String × DataW Unit} {n1 n2:String} {d1 d2:DataW Unit} {rest:List (String × DataW Unit)}
  (h:DataW.LaidVars Tryz.prog W (x::y::("internal/strconv.uint64pow10",Lib.tabData .u64 Lib.pow10Tab)::("strconv.ErrRange",.iface n1 d1)::("strconv.ErrSyntax",.iface n2 d2)::rest) ps):GoodW W:=by
 obtain ⟨_,h⟩:=Wb9 h
 obtain ⟨_,h⟩:=Wb9 h
 obtain ⟨⟨cs,f,p,hv,hd⟩,_,h⟩:=Uby (g:=2) (t:=403) h (by kernel_rfl) (by kernel_rfl)
 obtain ⟨⟨cs2,f2,p2,hv2,hd2⟩,_,h⟩:=Uby (g:=1) (t:=104) h (by kernel_rfl) (by kernel_rfl)
 obtain ⟨⟨cs3,f3,p3,hv3,hd3⟩,_,h⟩:=Uby (g:=0) (t:=104) h (by kernel_rfl) (by kernel_rfl)
 refine ⟨?_,Zcw (ms:=_) Tryz.underlying104 hv3 hd3,Zcw (ms:=_) Tryz.underlying104 hv2 hd2⟩
 unfold Lib.TabIs
 rw [hv,← Lib.cells_of_tab Tryz.underlying403 Tryz.underlying308 (by kernel_rfl) (by kernel_rfl) hd]
theorem APure.law {f:FuncId} {args:List AV} {b:Bool} (hen:Enters Tryz.prog f) (h:APure Tryz.prog f args (.bool b)) {W:World} (hW:GoodW W) {cargs:List Value} (hv:∀ C:Ctx,C.w=W→(∀ b,b<W.heap.size→C.pers b)→VRs C args cargs) :
  Calls Tryz.prog f cargs.toArray W fun e w'=>e=.returned (.bool b)∧Below W.heap.size W w':=by
 have hC:All ⟨W,[],fun b=>b<W.heap.size,W⟩:=⟨⟨rfl,hW,Below.refl _ _,fun b hb=>hb,fun b hb=>hb,fun r b o h=>by simp at h,fun r r' b o o' h=>by simp at h⟩,rfl,fun b hb=>hb⟩
 refine (h.callsC hen hC (hv _ rfl fun _ h=>h)).mono ?_
 rintro e w' ⟨⟨c,C',rfl,hc⟩,hb⟩
 rw [hc.bool_inv]
 exact ⟨rfl,hb⟩
end Ab
namespace Ab
open Go Go.RowKit Go.Proofs
attribute [local irreducible] aws awp aw1 Og Om Oc Oa Ogd Ov Ot awd Zb awh Wb Ogh Ohd awl Ogl Ohl awv Ogv Ohv Xb Vb QFn Ub QRo QBe ACode AYield
def Zi (l:List UInt8):List AV:=l.map fun b=>AV.int .u8 b.toNat
def Yd (l:List UInt8) (a:Nat) (c:Int):AObj:=.cells [.pl 1 (Zi l),.int .i64 a,.int .u32 c]
theorem Uhj (x:Int):0≤IntKind.u32.wrap x∧IntKind.u32.wrap x<2^32:=by
 have:IntKind.u32.wrap x=x % 4294967296:=by
  simp [IntKind.wrap,IntKind.bits,IntKind.signed]
 rw [this]
 omega
theorem Zz (x:Int):0≤IntKind.i64.wrap (IntKind.u32.wrap x)∧IntKind.i64.wrap (IntKind.u32.wrap x)<4294967296:=by
 have:=Uhj x
 rw [w64 (by omega) (by omega)]
 omega
set_option maxHeartbeats 2000000 in
theorem Ver (σ:Za) (d:Nat) (l:List UInt8) (a:Nat) (c:Int) (h:σ[d]? = some (Yd l a c)) (ha:a≤l.length) (hl:l.length≤9223372036854775807) :
  ACalls Tryz.prog 131 [.ptr d 0] σ (fun v σ'=>∃ (n:Int) (a':Nat) (c':Int),v=.int .i64 n∧0≤n∧n<2^32∧a'≤l.length∧σ'=σ.set d (Yd l a' c')):=by
 have hd:=(Qzs.1 h).1
 have hs:∀ X:AObj,(σ.set d X)[d]? = some X:=fun X=>by simp [hd]
 unfold Yd at h
 refine Yb Tryz.func131 rfl (Ua Tryz.func131 (by decide) rfl) ?_
 simp [Tryz.ntmps131]
 refine Ym mixed (by kernel_rfl) ?_
 by_cases he:a=l.length
 ·subst he
  by_cases h0:l.length=0
  ·have h0':(l.length:Int)=0:=by omega
   obtain rfl:=List.eq_nil_of_length_eq_zero h0
   simp [h,hs,Zi]
   exact ⟨(Zz _).1,(Zz _).2,_,rfl⟩
  ·have h0':(0:Int)<(l.length:Int):=by omega
   have h0'':0<l.length:=by omega
   simp [h,hs,Zi,h0',h0'']
   refine Ym mixed (by kernel_rfl) ?_
   simp [h,hs,Zi,h0',h0'']
   exact ⟨(Zz _).1,(Zz _).2,1,by omega,_,by rw [w64 (by omega) (by omega)];rfl⟩
 ·have he':¬ (a:Int)=(l.length:Int):=by omega
  have h0':(0:Int)<(l.length:Int):=by omega
  have hlt:a<l.length:=by omega
  have hlt':(a:Int)<(l.length:Int):=by omega
  have hx:=w64 (n:=(a:Int)+1) (by omega) (by omega)
  have h0n:0<l.length:=by omega
  simp [h,hs,Zi,he,he',h0',h0n,hlt]
  refine Ym mixed (by kernel_rfl) ?_
  simp [h,hs,Zi,he,he',h0',h0n,hlt,hlt',hx]
  exact ⟨(Zz _).1,(Zz _).2,a+1,by omega,_,rfl⟩
end Ab
namespace Ab
open Go Go.RowKit Go.Proofs Go.ChangeShapes Go.WideShapes Go.ChangeAt
theorem laidOut:laidOutB Tryz.prog=true:=by kernel_rfl
set_option maxRecDepth 100000 in
theorem open_bytes {H:Type} {enc:TypeId × Value→H} {W:World} {base:Nat} {sp:Nat→Bool} {held:Bool} {v:Value} {d:DataW H} {p:List MemPlace} (hval:Value.okWide Tryz.prog W .any base 22 v)
  (hd:DataW.Trod enc Tryz.prog W 0 sp held 22 v d p):∃ l:List UInt8,l.length≤9223372036854775807∧∀ C:Ctx,C.w=W→(∀ b,b<W.heap.size→C.pers b)→VR C (.pl 1 (Zi l)) v:=by
 obtain ⟨a0,len0,cap0,rfl⟩:=okWide_slice Tryz.underlying22 hval
 obtain ⟨fuel,hf⟩:=hd
 rcases open_ints Tryz.underlying22 Tryz.underlying5 (by kernel_rfl) hf with ⟨h1,_⟩ | ⟨a,len,cap,zs,h1,hb,hl,hm,hz,_,hcell,hwf⟩
 ·simp [Value.cells] at h1
  obtain ⟨rfl,rfl,rfl⟩:=h1
  exact ⟨[],by simp,fun C _ _=>.pl0 1 none 0 fun _=>rfl⟩
 ·simp [Value.cells] at h1
  obtain ⟨rfl,rfl,rfl⟩:=h1
  have hzl:len0≤zs.length:=by rw [hz];split<;>omega
  have hml:len0≤9223372036854775807:=by unfold maxLen at hm;omega
  have hby:∀ n∈zs,0≤n∧n≤255:=fun n hn=>by
   have:=hwf n hn
   simp [Lit.wf,IntKind.min,IntKind.max,IntKind.bits,IntKind.signed] at this
   omega
  have hget:∀ (i:Nat) (x:AV),(Zi ((zs.take len0).map fun n=>UInt8.ofNat n.toNat))[i]? = some x→x=.int .u8 (zs.getD i 0)∧i<len0:=by
   intro i x hx
   unfold Zi at hx
   rw [Qzp,Qzp] at hx
   rcases Qzn i len0 with hi | hi
   ·rw [List.getElem?_take_of_lt hi,Qze (by omega)] at hx
    simp at hx
    have hmem:=hby _ (List.getElem_mem (show i<zs.length by omega))
    refine ⟨?_,hi⟩
    rw [← hx,List.getD_eq_getElem?_getD,Qze (by omega)]
    simp
    omega
   ·rw [List.getElem?_eq_none (by simp;omega)] at hx
    simp at hx
  refine ⟨(zs.take len0).map fun n=>UInt8.ofNat n.toNat,by simp;omega,fun C hC hp=>?_⟩
  have hlen:(Zi ((zs.take len0).map fun n=>UInt8.ofNat n.toNat)).length=len0:=by unfold Zi;simp;omega
  rcases Nat.eq_zero_or_pos len0 with h0 | h0
  ·have e:Zi ((zs.take len0).map fun n=>UInt8.ofNat n.toNat)=[]:=List.eq_nil_of_length_eq_zero (by omega)
   rw [e]
   subst h0
   exact .pl0 1 (some a) cap0 fun h=>by cases h
  ·obtain ⟨b,o,spot⟩:=a
   have h2:=hcell 0 (by omega)
   have hsp:spot=none:=by
    cases spot with
    | none=>rfl
    | some s=>simp [World.cell?,Addr.add] at h2;split at h2<;>simp at h2
   subst hsp
   have hbl:b<W.heap.size:=by
    rcases Qzn b W.heap.size with h | h
    ·exact h
    ·simp [World.cell?,Addr.add,Array.getElem?_eq_none h] at h2
   subst hC
   refine .pl 1 _ b o len0 cap0 (fun i j=>.int .u8 (zs.getD i 0)) (hp b hbl) hlen.symm hl (fun i x hx=>?_) (fun i x hx j y hy=>?_)
   ·obtain ⟨rfl,hi⟩:=hget i x hx
    refine ⟨rfl,fun j y hy=>?_⟩
    match j,hy with
    | 0,hy =>
     simp [AV.cells] at hy;subst hy
     refine ⟨rfl,?_⟩
     have h3:=hcell i (by omega)
     rw [Wq] at h3
     simpa using h3
    | j+1,hy=>simp [AV.cells] at hy
   ·obtain ⟨rfl,hi⟩:=hget i x hx
    match j,hy with
    | 0,hy=>simp [AV.cells] at hy;subst hy;exact .int _ _
    | j+1,hy=>simp [AV.cells] at hy
theorem Wbr {C:Ctx} {x:AV} {c:Value} {xs:List AV} {cs:List Value} (h:VR C x c) (hs:VRs C xs cs):VRs C (x::xs) (c::cs):=.cons h hs
end Ab
namespace Oyez
def upTo (k n:Nat):List Place:=allPlaces.take (1000*k+n)
def Uit (base a b:List Rec) (second:List Bool) (k n:Nat):Jn:=(upTo k n).foldl (Wby base a b second) ⟨[],[]⟩
end Oyez
namespace Ab
open Go Go.RowKit Go.Proofs
attribute [local irreducible] aws awp aw1 Og Om Oc Oa Ogd Ov Ot awd Zb Xb Vb QFn Ub ACode AYield
def Vbq (c:Oyez.Chg):AV:=.agg [.int .i64 c.kind,.int .i64 c.number,.bool c.had,.bool c.has,Xl c.old,Xl c.new]
def Xer (l:List Oyez.Chg):AV:=.pl 6 (l.map Vbq)
attribute [simp] Vbq Xer
end Ab
namespace Oyez
def putJ (J:Jn) (p:Place) (w:St):Jn:=⟨match w with | some ws=>J.out++[⟨p.kind,p.number,ws⟩] | none=>J.out,J.conf⟩
def Zcq (second:List Bool) (i:Nat) (x y z:St):St:=match second[i]? with | none=>x | some c=>if c then z else y
def stepJ (x y z:St) (second:List Bool) (p:Place) (J:Jn):Jn :=
 if y=z∨z=x then putJ J p y else if y=x then putJ J p z else putJ ⟨J.out,J.conf++[chg p y z]⟩ p (Zcq second J.conf.length x y z)
end Oyez
namespace Ab
open Go Go.RowKit Go.Proofs
attribute [local irreducible] aws awp aw1 Og Om Oc Oa Ogd Ov Ot awd Zb Xb Vb QFn Ub ACode AYield
def Yit (c:Oyez.Chg):List AV:=[.int .i64 c.kind,.int .i64 c.number,.bool c.had,.bool c.has,Xl c.old,Xl c.new]
structure JS (σ:Za) (J:Oyez.Jn) (v1 v2:AV) (g:Za):Prop where
 ex:∃ o1 o2,Acc σ g 3 v1 (J.out.map Yg) o1∧Acc σ g 6 v2 (J.conf.map Vbq) o2∧∀ j,o1=some j→o2=some j→False
theorem Acc.lt {σ g:Za} {k:Nat} {v:AV} {l:List AV} {j:Nat} (h:Acc σ g k v l (some j)):j<g.length:=(Qzs.1 h.val.2).1
theorem Acc.keep {σ g g':Za} {k:Nat} {v:AV} {l:List AV} {o:Option Nat} (h:Acc σ g k v l o) (hk:∀ j,o=some j→g'[j]? = g[j]?):Acc σ g' k v l o:=⟨h.len,by
 have hv:=h.val
 cases o with
 | none=>exact hv
 | some j=>exact ⟨hv.1,by rw [hk j rfl];exact hv.2⟩⟩
end Ab
namespace Ab
open Go Go.RowKit Go.Proofs
attribute [local irreducible] aws awp aw1 Og Om Oc Oa Ogd Ov Ot awd Zb awh Wb Ogh Ohd awl Ogl Ohl awv Ogv Ohv Xb Vb QFn Ub QRo QBe ACode AYield
theorem Wcu (l m:List Oyez.Rec):Xo (l++m)=Xo l++Xo m:=by unfold Xo;rw [List.flatMap_append]
theorem Ufw (l:List Oyez.Rec) (i:Nat) (h:i≤l.length):(Xo l).take (i*3)=Xo (l.take i)∧(Xo l).drop (i*3)=Xo (l.drop i):=by
 have e:Xo l=Xo (l.take i)++Xo (l.drop i):=by rw [← Wcu,List.take_append_drop]
 have h1:(Xo (l.take i)).length=i*3:=by rw [Ufe,List.length_take];omega
 rw [e,← h1]
 exact ⟨List.take_left,List.drop_left⟩
def Yap (l:List Oyez.Rec) (t:Oyez.Rec) (i:Nat):List Oyez.Rec:=l.take i++t::l.drop i
theorem Yfv (l:List Oyez.Rec) (t:Oyez.Rec) (i:Nat) (h:i≤l.length):Xbi (Xo l) (Vac t) i=Xo (Yap l t i):=by
 obtain ⟨h1,h2⟩:=Ufw l i h
 unfold Xbi Yap
 rw [h1,h2,Wcu]
 show _=_++(Vac t++Xo (l.drop i))
 rw [List.append_assoc]
structure PlaceAt (l:List Oyez.Rec) (t:Oyez.Rec) (i:Nat):Prop where
 le:i≤l.length
 lo:∀ (m:Nat) (h:m<l.length),m<i→l[m].place.lt t.place=true
 hi:∀ (m:Nat) (h:m<l.length),i≤m→l[m].place.lt t.place=false
theorem PlaceAt.found {l:List Oyez.Rec} {t:Oyez.Rec} {i:Nat} (hs:Oyez.RSorted l) (h:PlaceAt l t i):t.place∈l.map Oyez.Rec.place↔∃ hi:i<l.length,l[i].place=t.place:=by
 constructor
 ·intro hm
  obtain ⟨x,hx,e⟩:=List.mem_map.1 hm
  obtain ⟨m,hml,rfl⟩:=List.mem_iff_getElem.1 hx
  have h1:i≤m:=by
   rcases Qzn m i with h2 | h2
   ·have:=h.lo m hml h2
    rw [e,Oyez.Place.lt_irrefl] at this
    cases this
   ·exact h2
  rcases Qzn i m with h2 | h2
  ·have h3:=h.hi i (by omega) (Nat.le_refl _)
   unfold Oyez.RSorted Oyez.Sorted at hs
   rw [List.pairwise_map] at hs
   have:=List.pairwise_iff_getElem.1 hs i m (by omega) hml h2
   rw [e,h3] at this
   cases this
  ·obtain rfl:m=i:=by omega
   exact ⟨hml,e⟩
 ·rintro ⟨hi,e⟩
  exact e▸List.mem_map_of_mem (List.getElem_mem hi)
theorem PlaceAt.sorted {l:List Oyez.Rec} {t:Oyez.Rec} {i:Nat} (hs:Oyez.RSorted l) (h:PlaceAt l t i) (hn:t.place∉l.map Oyez.Rec.place):Oyez.RSorted (Yap l t i):=by
 unfold Oyez.RSorted Oyez.Sorted Yap at *
 rw [List.pairwise_map] at hs ⊢
 have e:l=l.take i++l.drop i:=(List.take_append_drop i l).symm
 rw [e,List.pairwise_append] at hs
 obtain ⟨s1,s2,s3⟩:=hs
 have low:∀ x∈l.take i,x.place.lt t.place=true:=fun x hx=>by
  obtain ⟨m,hm,rfl⟩:=List.mem_iff_getElem.1 hx
  rw [List.length_take] at hm
  rw [List.getElem_take]
  exact h.lo m (by omega) (by omega)
 have high:∀ x∈l.drop i,t.place.lt x.place=true:=fun x hx=>by
  have hxl:x∈l:=List.mem_of_mem_drop hx
  obtain ⟨m,hm,rfl⟩:=List.mem_iff_getElem.1 hx
  rw [List.length_drop] at hm
  have h1:=h.hi (i+m) (by omega) (by omega)
  rw [List.getElem_drop] at hxl ⊢
  cases h2:t.place.lt l[i+m].place with
  | true=>rfl
  | false=>exact absurd (Oyez.Place.lt_tri h1 h2▸List.mem_map_of_mem hxl) hn
 refine List.pairwise_append.2 ⟨s1,List.pairwise_cons.2 ⟨high,s2⟩,fun x hx y hy=>?_⟩
 rcases List.mem_cons.1 hy with rfl | hy
 ·exact low x hx
 ·exact s3 x hx y hy
theorem InsQ.acc {τ g:Za} {l:List Oyez.Rec} {t:Oyez.Rec} {i j:Nat} {v:AV} {σ':Za} (h:InsQ (τ++g) (τ.length+j) l.length i (Xo l) (Vac t) v σ') (hi:i≤l.length) :
  ∃ g' j',σ'=τ++g'∧Acc τ g' 3 v ((Yap l t i).map Yg) (some j'):=by
 obtain ⟨r',rfl,h1,h2,h3,h4⟩:=h
 rw [List.length_append] at h2
 have ht:σ'.take τ.length=τ:=by
  apply List.ext_getElem?
  intro k
  rcases Qzn k τ.length with hk | hk
  ·rw [List.getElem?_take_of_lt hk,h4 k (by omega) (by rw [List.length_append];omega),Qzl hk]
  ·rw [List.getElem?_eq_none (by rw [List.length_take];omega),List.getElem?_eq_none hk]
 have hr':τ.length≤r':=by
  rcases h3 with h3 | h3
  ·omega
  ·rw [List.length_append] at h3;omega
 have hl:(Yap l t i).length=l.length+1:=by
  unfold Yap
  rw [List.length_append,List.length_cons,List.length_take,List.length_drop]
  omega
 refine ⟨σ'.drop τ.length,r' - τ.length,?_,⟨fun x hx=>?_,?_,?_⟩⟩
 ·conv=>lhs;rw [← List.take_append_drop τ.length σ',ht]
 ·obtain ⟨r,_,rfl⟩:=List.mem_map.1 hx
  exact ⟨rfl,by simp [AV.cells,AV.one]⟩
 ·rw [List.length_map,hl,show τ.length+(r' - τ.length)=r' by omega]
 ·rw [List.getElem?_drop,show τ.length+(r' - τ.length)=r' by omega,h1,Yfv l t i hi,Yed]
end Ab
namespace Ab
open Go Go.RowKit Go.Proofs
attribute [local irreducible] aws awp aw1 Og Om Oc Oa Ogd Ov Ot awd Zb awh Wb Ogh Ohd awl Ogl Ohl awv Ogv Ohv Xb Vb QFn Ub QRo QBe ACode AYield
def Xgc (l:List UInt8) (d:Nat) (σ:Za) (m:Int) (v:AV) (σ':Za):Prop:=∃ (n:Int) (a':Nat) (c':Int),v=.int .i64 n∧0≤n∧n≤m∧a'≤l.length∧σ'=σ.set d (Yd l a' c')
theorem Xcg (σ:Za) (d:Nat) (l:List UInt8) (a:Nat) (c m:Int) (h:σ[d]? = some (Yd l a c)) (ha:a≤l.length) (hl:l.length≤9223372036854775807) (hm:0≤m) (hm2:m≤2^40) :
  ACalls Tryz.prog 50 [.ptr d 0,.int .i64 m] σ (Xgc l d σ m):=by
 refine Yb Tryz.func50 rfl (Ua Tryz.func50 (by decide) rfl) ?_
 simp [Tryz.ntmps50]
 refine StA.of ((Ver σ d l a c h ha hl).mono ?_)
 rintro v σ' ⟨n,a',c',rfl,h0,h1,ha',rfl⟩
 have hx:=w64 (n:=m+1) (by omega) (by omega)
 have hne:¬ m+1=0:=by omega
 have hif:(if 1<m+1 then m+1 else 1)=m+1:=by split<;>omega
 simp [hx,hne]
 rw [hif,if_neg hne]
 simp only [Option.map_some,Xk]
 have h3:=Int.tmod_lt_of_pos n (show 0<m+1 by omega)
 exact ⟨_,a',c',rfl,Int.tmod_nonneg _ h0,by omega,ha',rfl⟩
def Uhi:List (List UInt8):=[[116,105,100,101],[115,116,111,114,109],[113,117,97,121],[112,117,114,115,101,55],[98,101,108,108],[97],[48],[108,111,97,102,52]]
theorem Xfz {σ:Za} {d:Nat} {l:List UInt8} {a:Nat} {c:Int} {n:Nat} {S:Za} (hd:d<σ.length):∀ (r:Nat) (o:AObj),(σ.set d (Yd l a c))[r]? = some o→σ[r]? = some o∨∃ cs,o=.cells cs∧∀ y∈cs,Fz n S y y:=by
 intro r o h
 rw [List.getElem?_set] at h
 split at h
 ·obtain rfl:=Option.some.inj h
  refine .inr ⟨_,rfl,fun y hy=>?_⟩
  simp at hy
  rcases hy with rfl | rfl | rfl
  ·refine .pl 1 _ fun i x hx j y hy=>?_
   unfold Zi at hx
   rw [Qzp,Qzm] at hx
   obtain ⟨b,_,rfl⟩:=hx
   match j,hy with
   | 0,hy=>simp [AV.cells] at hy;subst hy;exact .int _ _
   | j+1,hy=>simp [AV.cells] at hy
  ·exact .int _ _
  ·exact .int _ _
 ·exact .inl h
theorem Acc.set {σ g:Za} {k:Nat} {v:AV} {l:List AV} {o:Option Nat} (h:Acc σ g k v l o) (d:Nat) (X:AObj):Acc (σ.set d X) g k v l o:=⟨h.len,by
 have:=h.val
 cases o with
 | none=>exact this
 | some j=>rw [List.length_set];exact this⟩
theorem set_set {σ g:Za} {d:Nat} (hd:d<σ.length) (X Y:AObj):(σ.set d X++g).set d Y=σ.set d Y++g:=by
 rw [List.set_append_left _ _ (by simpa using hd),List.set_set]
theorem Vb6 {σ g:Za} {d:Nat} (hd:d<σ.length) (X:AObj):(σ.set d X++g)[d]? = some X:=by
 rw [Qzl (by simpa using hd)];simp [hd]
end Ab
namespace Oyez
end Oyez
namespace Ab
open Go Go.RowKit Go.Proofs
attribute [local irreducible] aws awp aw1 Og Om Oc Oa Ogd Ov Ot awd Zb awh Wb Ogh Ohd awl Ogl Ohl awv Ogv Ohv Xb Vb QFn Ub QRo QBe ACode AYield
theorem Zb4 (σ:Za) (x:AV) (hx:x.one=true):ACalls Tryz.prog 8 [x] σ (fun v σ'=>v=.ptr σ.length 0∧σ'=σ++[.cells [x,.int .i64 0,.int .u32 0]]):=by
 refine Yb Tryz.func8 rfl (Ua Tryz.func8 (by decide) rfl) ?_
 cases x<;>first | (simp [AV.one] at hx;done) | simp [Tryz.ntmps8]
end Ab
namespace Ab
open Go Go.RowKit Go.Proofs
attribute [local irreducible] aws awp aw1 Og Om Oc Oa Ogd Ov Ot awd Zb awh Wb Ogh Ohd awl Ogl Ohl awv Ogv Ohv Xb Vb QFn Ub QRo QBe ACode AYield
end Ab
namespace Ab
open Go Go.RowKit Go.Proofs
attribute [local irreducible] aws awp aw1 Og Om Oc Oa Ogd Ov Ot awd Zb awh Wb Ogh Ohd awl Ogl Ohl awv Ogv Ohv Xb Vb QFn Ub QRo QBe ACode AYield
structure GoodF (f:List Oyez.Rec):Prop where
 recs:∀ r∈f,Oyez.recErr r=0
 sorted:Oyez.RSorted f
 words:∀ r∈f,∀ w∈r.words,w∈Uhi
theorem GoodF.nil:GoodF []:=⟨by simp,by simp [Oyez.RSorted,Oyez.Sorted],by simp⟩
end Ab
namespace Oyez
structure RightC (l:List Chg):Prop where
 len:l.length≤80
 each:∀ c∈l,Uaw c=0
 sorted:Sorted (l.map Chg.place)
theorem Wgp {c:Chg} (h:Uaw c=0):c.place∈allPlaces∧wordsErr c.kind c.number c.old=0∧wordsErr c.kind c.number c.new=0∧(c.had=false→c.old=[])∧(c.has=false→c.new=[])∧c.was≠c.now:=by
 unfold Uaw at h
 split at h
 ·rename_i h1;exact absurd h h1
 ·rename_i h1
  split at h
  ·rename_i h2;exact absurd h h2
  ·rename_i h2
   split at h
   ·rename_i h3;exact absurd h h3
   ·rename_i h3
    split at h
    ·cases h
    ·rename_i h4
     simp only [Bool.or_eq_true,Bool.and_eq_true,not_or,not_and,beq_iff_eq,decide_eq_true_eq,Bool.not_eq_true',List.isEmpty_iff,Bool.not_eq_true,Bool.not_eq_false'] at h4
     obtain ⟨⟨h5,h6⟩,h7⟩:=h4
     have h5':c.had=false→c.old=[]:=fun e=>by simpa using h5 e
     have h6':c.has=false→c.new=[]:=fun e=>by simpa using h6 e
     refine ⟨Yce (by simpa using h1),by simpa using h2,by simpa using h3,h5',h6',?_⟩
     unfold Chg.was Chg.now
     cases h8:c.had<;>cases h9:c.has
     ·exact absurd (by rw [h5' h8,h6' h9]) (h7 (by rw [h8,h9]))
     ·simp
     ·simp
     ·simpa using h7 (by rw [h8,h9])
theorem RightC.range {l:List Chg} (h:RightC l):∀ c∈l,c.place∈allPlaces:=fun c hc=>(Wgp (h.each c hc)).1
def stL (l:List Chg) (p:Place) (s:St):St:=l.foldl (fun s c=>if c.place=p then c.now else s) s
end Oyez
namespace Oyez
def Zjb:St→S
 | none=>[]
 | some ws=>32::Uab ws
def Zin (x:St):Prop:=∀ ws,x=some ws→∀ w∈ws,word w=true
def Zhp (x y z:St):Bool:=decide (¬ y=z∧¬ y=x∧¬ z=x)
def Xfr (base a b:List Rec) (p:Place):Bool:=Zhp (getIn base p) (getIn a p) (getIn b p)
def Vi7 (base a b:List Rec) (s:List Bool) (i:Nat) (p:Place):St :=
 if getIn a p=getIn b p∨getIn b p=getIn base p then getIn a p else if getIn a p=getIn base p then getIn b p else Zcq s i (getIn base p) (getIn a p) (getIn b p)
def Xf0 (base a b:List Rec):List Place:=placesOf ((base++a++b).map Rec.place)
def Vi9 (base a b:List Rec):List Place:=(Xf0 base a b).filter (Xfr base a b)
theorem right_check {f:List Rec} (h:Right f):check f=0:=by
 unfold check
 rw [if_neg (by have:=h.len;omega)]
 have key:∀ (f:List Rec) (p:Option Place),(∀ r∈f,recErr r=0)→RSorted f→(∀ q,p=some q→∀ r∈f,q.lt r.place=true)→checkFrom p f=0:=by
  intro f
  induction f with
  | nil=>intro p _ _ _;rfl
  | cons r t ih =>
   intro p h1 h2 h3
   have hq:=List.pairwise_cons.1 h2
   rw [checkFrom,if_neg (by simpa using h1 r (by simp)),if_neg]
   ·exact ih _ (fun x hx=>h1 x (by simp [hx])) hq.2 fun q e x hx=>by
     obtain rfl:=Option.some.inj e
     exact hq.1 _ (List.mem_map_of_mem hx)
   ·cases p with
    | none=>simp
    | some q=>simp [h3 q rfl r (by simp)]
 exact key f none h.recs h.sorted fun q e=>by cases e
def Xi7 (f g:List Rec):List Place:=placesOf ((f++g).map Rec.place)
end Oyez
namespace Ab
open Go Go.RowKit Go.Proofs
theorem Ueu {f:List Oyez.Rec} (h:Oyez.check f=0):Few f∧f.length≤40∧(Oyez.print f).length≤2600∧∀ r∈f,r.words.length≤2^40:=by
 have hr:=Oyez.check_zero h
 have hl:=hr.len
 have hp:=Vc1 hr.recs
 have key:∀ r∈f,Xx r.words≤64∧r.words.length≤6:=fun r hm=>by
  obtain ⟨_,h2⟩:=(Oyez.recErr_iff r).1 (hr.recs r hm)
  obtain ⟨h3,h4,h5⟩:=Oyez.wordsErr_zero h2
  refine ⟨?_,h3⟩
  unfold Oyez.line at h5
  rw [List.length_append,Vc2] at h5
  omega
 exact ⟨fun r hm=>⟨by have:=(key r hm).1;omega,by have:=(key r hm).2;omega⟩,hl,by omega,fun r hm=>by have:=(key r hm).2;omega⟩
theorem GoodF.right {f:List Oyez.Rec} (h:GoodF f) (hl:f.length≤40):Oyez.Right f:=⟨hl,h.recs,h.sorted⟩
theorem Ye5 (l:List UInt8):Uv (Zi l)=some l:=by
 unfold Zi
 induction l with
 | nil=>rfl
 | cons b t ih=>simp [Uv,ih]
def dmg (b:UInt8) (dm:Nat):UInt8:=UInt8.ofNat (b.toNat+(1+dm / 256 % 255))
structure CopyOf (f a:List Oyez.Rec) (e:List Oyez.Place):Prop where
 good:GoodF a
 len:a.length≤f.length+3
 few:e.length≤3
 at_:∀ r∈a,r.place∈f.map Oyez.Rec.place∨r.place∈e
theorem CopyOf.mem {f a:List Oyez.Rec} {e:List Oyez.Place} (h:CopyOf f a e):∀ p∈a.map Oyez.Rec.place,p∈f.map Oyez.Rec.place++e:=fun p hp=>by
 obtain ⟨r,hr,rfl⟩:=List.mem_map.1 hp
 exact List.mem_append.2 (h.at_ r hr)
end Ab
namespace Ab
open Go Go.RowKit Go.Proofs
attribute [local irreducible] aws awp aw1 Og Om Oc Oa Ogd Ov Ot awd Zb Xb Vb QFn Ub ACode AYield
def Xis (o:Option (List Bool)):AV:=match o with | none=>.nils | some l=>.pl 1 (l.map AV.bool)
end Ab

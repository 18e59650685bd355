/-
  Texts packed for a claim.
-/
import Derived.Test.YtcoikmapjepdjaaGreatDoorD00
import Derived.Lib.Overlaps
import Derived.Test.YtcoikmapjepdjaaGreatDoorD11
import Derived.Test.YtcoikmapjepdjaaGreatDoorD13
import Derived.Test.YtcoikmapjepdjaaGreatDoorD20
import Derived.Test.YtcoikmapjepdjaaGreatDoorD14
import Derived.Test.YtcoikmapjepdjaaGreatDoorD10
set_option linter.all false
namespace Oyez
def putR (r:Rec):Bool→List Rec→List Rec
 | done,[]=>if done then [] else [r]
 | done,x::t=>(if !done&&!(x.place.lt r.place) then [r] else [])++((if x.place=r.place then [] else [x])++putR r (done||!(x.place.lt r.place)) t)
end Oyez
namespace Ab
open Go Go.RowKit Go.Proofs
attribute [local irreducible] aws awp aw1 Og Om Oc Oa Ogd Ov Ot awd Zb Wb Vb QFn Ub ACode ACalls AYield
def Yc (o:Option (List (List UInt8))):List (List UInt8):=o.getD []
def Wia (f:List Oyez.Rec) (p:Oyez.Place):List Oyez.Rec × Int:=if (Oyez.getIn f p).isSome then (Oyez.drop f p,0) else ([],1)
def Yhs (f:List Oyez.Rec) (r:Oyez.Rec):List Oyez.Rec × Int:=if 40<(Oyez.putR r false f).length then ([],2) else (Oyez.putR r false f,0)
end Ab
namespace Oyez
theorem st_eq (x y:St):x=y↔x.isSome=y.isSome∧x.getD []=y.getD []:=by
 cases x<;>cases y<;>simp
def upTo (k n:Nat):List Place:=allPlaces.take (1000*k+n)
def Uhy (base a b:List Rec) (second:List Bool) (k n:Nat):Jn:=(upTo k n).foldl (Zr base a b second) ⟨[],[]⟩
theorem Wfr (base a b:List Rec) (s:List Bool):∀ (l:List Place) (x:Jn),(l.foldl (Zr base a b s) x).out.length≤x.out.length+l.length∧(l.foldl (Zr base a b s) x).conf.length≤x.conf.length+l.length:=by
 intro l
 induction l with
 | nil=>intro x;simp
 | cons p t ih =>
  intro x
  have h1:=ih (Zr base a b s x p)
  have h2:=Zgl base a b s x p
  rw [List.foldl_cons,List.length_cons]
  omega
end Oyez
namespace Ab
open Go Go.RowKit Go.Proofs
attribute [local irreducible] aws awp aw1 Og Om Oc Oa Ogd Ov Ot awd Zb Wb Vb QFn Ub ACode AYield
def Xbf (c:Oyez.Chg):AV:=.agg [.int .i64 c.kind,.int .i64 c.number,.bool c.had,.bool c.has,Uc c.old,Uc c.new]
def Vfj (l:List Oyez.Chg):AV:=.pl 6 (l.map Xbf)
attribute [simp] Xbf Vfj
end Ab
namespace Oyez
def putJ (J:Jn) (p:Place) (w:St):Jn:=⟨match w with | some ws=>J.out++[⟨p.kind,p.number,ws⟩] | none=>J.out,J.conf⟩
def pickJ (second:List Bool) (i:Nat) (x y z:St):St:=match second[i]? with | none=>x | some c=>if c then z else y
def stepJ (x y z:St) (second:List Bool) (p:Place) (J:Jn):Jn :=
 if y=z∨z=x then putJ J p y else if y=x then putJ J p z else putJ ⟨J.out,J.conf++[chg p y z]⟩ p (pickJ second J.conf.length x y z)
theorem joinAt_step (base a b:List Rec) (second:List Bool) (J:Jn) (p:Place):Zr base a b second J p=stepJ (getIn base p) (getIn a p) (getIn b p) second p J:=rfl
theorem stepJ_same {x y z:St} {second:List Bool} {p:Place} {J:Jn} (h:y=z):stepJ x y z second p J=putJ J p y:=if_pos (.inl h)
theorem stepJ_zx {x y z:St} {second:List Bool} {p:Place} {J:Jn} (h:z=x):stepJ x y z second p J=putJ J p y:=if_pos (.inr h)
theorem stepJ_yx {x y z:St} {second:List Bool} {p:Place} {J:Jn} (h:¬ y=z) (h2:y=x):stepJ x y z second p J=putJ J p z:=by
 unfold stepJ
 rw [if_neg,if_pos h2]
 rintro (h3 | h3)
 ·exact h h3
 ·exact h (h2.trans h3.symm)
theorem stepJ_clash {x y z:St} {second:List Bool} {p:Place} {J:Jn} (h:¬ y=z) (h2:¬ y=x) (h3:¬ z=x):stepJ x y z second p J=putJ ⟨J.out,J.conf++[chg p y z]⟩ p (pickJ second J.conf.length x y z):=by
 unfold stepJ
 rw [if_neg (by rintro (h4 | h4);exact h h4;exact h3 h4),if_neg h2]
end Oyez
namespace Ab
open Go Go.RowKit Go.Proofs
attribute [local irreducible] aws awp aw1 Og Om Oc Oa Ogd Ov Ot awd Zb Wb Vb QFn Ub ACode AYield
def Uhp (c:Oyez.Chg):List AV:=[.int .i64 c.kind,.int .i64 c.number,.bool c.had,.bool c.has,Uc c.old,Uc c.new]
structure JS (σ:Za) (J:Oyez.Jn) (v1 v2:AV) (g:Za):Prop where
 ex:∃ o1 o2,Acc σ g 3 v1 (J.out.map Yg) o1∧Acc σ g 6 v2 (J.conf.map Xbf) o2∧∀ j,o1=some j→o2=some j→False
theorem Acc.lt {σ g:Za} {k:Nat} {v:AV} {l:List AV} {j:Nat} (h:Acc σ g k v l (some j)):j<g.length:=(Qzs.1 h.val.2).1
theorem Acc.keep {σ g g':Za} {k:Nat} {v:AV} {l:List AV} {o:Option Nat} (h:Acc σ g k v l o) (hk:∀ j,o=some j→g'[j]? = g[j]?):Acc σ g' k v l o:=⟨h.len,by
 have hv:=h.val
 cases o with
 | none=>exact hv
 | some j=>exact ⟨hv.1,by rw [hk j rfl];exact hv.2⟩⟩
end Ab
namespace Ab
open Go Go.RowKit Go.Proofs
attribute [local irreducible] aws awp aw1 Og Om Oc Oa Ogd Ov Ot awd Zb awh Xb Ogh Ohd awl Ogl Ohl awv Ogv Ohv Wb Vb QFn Ub QRo QBe ACode AYield
def Yc5 (ws:List (List UInt8)):Bool:=ws.any (fun w=>decide (90<w.length))||decide (10<ws.length)
def Xh5 (f:List Oyez.Rec):Bool:=f.any (fun r=>Yc5 r.words)||decide (60<f.length)
def Vfz (l:List Bool):AV:=.pl 1 (l.map AV.bool)
attribute [simp] Vfz
def Zo (f:List Oyez.Rec):List AV:=f.flatMap Uv
theorem Ve7 (f:List Oyez.Rec):(f.map Yg).flatMap AV.cells=Zo f:=by unfold Zo;rw [List.flatMap_map];rfl
theorem Yd0 (f:List Oyez.Rec):(Zo f).length=f.length*3:=by
 unfold Zo
 induction f with
 | nil=>rfl
 | cons p t ih=>rw [List.flatMap_cons,List.length_append,ih];simp [Uv];omega
end Ab
namespace Ab
open Go Go.RowKit
variable [Mode]
variable {P:Program}
theorem Inv.retell {C:Ctx} {σ:Za} (hI:Inv C σ) {r b:Nat} {o o':AObj} (hb:C.blk[r]? = some b) (ho:σ[r]? = some o) (hl:o.live=true) (hR:∀ c,C.w.heap[b]? = some c→ORel C o c→ORel C o' c):Inv C (σ.set r o'):=by
 have hrl:=(Qzs.1 ho).1
 have old:∀ (q:Nat) (p:AObj),(σ.set r o')[q]? = some p→p.live=true→∃ p',σ[q]? = some p'∧p'.live=true:=by
  intro q p hq hp
  by_cases e:r=q
  ·subst e;exact ⟨o,ho,hl⟩
  ·rw [List.getElem?_set_ne e] at hq;exact ⟨p,hq,hp⟩
 refine ⟨by rw [List.length_set];exact hI.len,hI.glob,hI.base,hI.basep,hI.plt,fun q b' p hq hp hpl=>?_,fun q q' b' p p' hq hq' hp hp' hpl hpl'=>?_⟩
 ·by_cases e:r=q
  ·subst e
   rw [List.getElem?_set_self hrl] at hp
   obtain rfl:=Option.some.inj hp
   rw [hb] at hq
   obtain rfl:=Option.some.inj hq
   obtain ⟨h1,c,h2,h3⟩:=hI.live r b o hb ho hl
   exact ⟨h1,c,h2,hR c h2 h3⟩
  ·rw [List.getElem?_set_ne e] at hp
   exact hI.live q b' p hq hp hpl
 ·obtain ⟨x,hx,hxl⟩:=old q p hp hpl
  obtain ⟨x',hx',hxl'⟩:=old q' p' hp' hpl'
  exact hI.inj q q' b' x x' hq hq' hx hx' hxl hxl'
theorem ACalls.room {f:FuncId} {k r off len:Nat} {rest:List AV} {σ:Za} {cs:List AV} {R:AV→Za→Prop} (hen:Enters P f) (hr:σ[r]? = some (.cells cs)) (hcl:cs.length=(off+len)*k)
  (h:∀ cap,len≤cap→ACalls P f (.arc k r off len cap::rest) (σ.set r (.cells (cs++List.replicate ((cap - len)*k) .any))) fun v σ'=>∃ v' cs' tl,
   (v=v'∨∃ k2 r2 o2 l2 c2,v=.arc k2 r2 o2 l2 c2∧v'=.arr k2 r2 o2 l2)∧σ'[r]? = some (.cells (cs'++tl))∧R v' (σ'.set r (.cells cs'))):ACalls P f (.arr k r off len::rest) σ R:=by
 have hrl:=(Qzs.1 hr).1
 refine .inl ⟨hen,fun C cargs hI hv=>?_⟩
 obtain ⟨c,cs',rfl,hx,hrest⟩:=hv.inv
 obtain ⟨b,cap,e,n,hb,hcap,hsh,hbd,rfl⟩:=hx.arr_inv
 obtain ⟨hnp,carr,e',lo,hi,hc,hsz,hfr,hrel⟩:=hI.cells hb hr
 have hn:carr.size=n:=by
  simp [World.shape?,hc] at hsh
  exact hsh.2
 have hI2:Inv C (σ.set r (.cells (cs++List.replicate ((cap - len)*k) .any))):=hI.retell hb hr rfl fun c hc' _=>by
  rw [hc] at hc'
  obtain rfl:=Option.some.inj hc'
  refine .cells _ carr e' lo hi ?_ hfr fun i x d hx hd=>?_
  ·rw [List.length_append,List.length_replicate,hcl,hn,← Nat.add_mul,show off+len+(cap - len)=off+cap by omega]
   exact hbd.1
  ·rcases Qzn i cs.length with h1 | h1
   ·rw [Qzl h1] at hx
    exact hrel i x d hx hd
   ·rw [Qzr h1] at hx
    have:=Qzg hx
    rw [List.mem_replicate] at this
    rw [this.2]
    exact .any d
 have hv2:VRs C (.arc k r off len cap::rest) (.slice (some ⟨b,off*k,none⟩) len cap::cs'):=.cons (.arc k r off len b cap e n hb hcap hsh hbd) hrest
 have fin:∀ {C':Ctx} {v:AV} {d:Value} {σ':Za},Ext C C'→Inv C' σ'→VR C' v d→(∃ v' cs' tl,(v=v'∨∃ k2 r2 o2 l2 c2,v=.arc k2 r2 o2 l2 c2∧v'=.arr k2 r2 o2 l2)∧σ'[r]? = some (.cells (cs'++tl))∧R v' (σ'.set r (.cells cs'))) →
   ∃ (v':AV) (σ2:Za),Inv C' σ2∧VR C' v' d∧R v' σ2:=by
  rintro C' v d σ' hE hI' hv' ⟨v',ds,tl,hvv,hr',hR⟩
  refine ⟨v',_,hI'.retell (hE.blk_at hb) hr' rfl fun c hc' hrel=>?_,?_,hR⟩
  ·obtain ⟨carr,e,lo,hi,rfl,h1,h2,h3⟩:=hrel.cells_inv
   refine .cells ds carr e lo hi (by rw [List.length_append] at h1;omega) h2 fun i x d hx hd=>h3 i x d ?_ hd
   rw [Qzl (Qzs.1 hx).1]
   exact hx
  ·rcases hvv with rfl | ⟨k2,r2,o2,l2,c2,rfl,rfl⟩
   ·exact hv'
   ·obtain ⟨b2,e2,n2,q1,q2,q3,q4,rfl⟩:=hv'.arc_inv
    exact .arr k2 r2 o2 l2 b2 c2 e2 n2 q1 q2 q3 q4
 rcases h cap hcap with h | h
 ·refine (h.2 C _ hI2 hv2).mono ?_
  rintro en w' ⟨d,C',av,σ',rfl,rfl,hE,hI',hv',hR⟩
  obtain ⟨v',σ2,a1,a2,a3⟩:=fin hE hI' hv' hR
  exact ⟨d,C',v',σ2,rfl,rfl,hE,a1,a2,a3⟩
 ·obtain ⟨d,C',av,σ',hrun,_⟩:=h C _ hI2 hv2
  rw [hen] at hrun
  cases hrun
end Ab
namespace Ab
open Go Go.RowKit Go.Proofs
attribute [local irreducible] aws awp aw1 Og Om Oc Oa Ogd Ov Ot awd Zb awh Xb Ogh Ohd awl Ogl Ohl awv Ogv Ohv Wb Vb QFn Ub QRo QBe ACode AYield
theorem Fr.tail {n e lo hi k:Nat} (h:Fr n e lo hi) (hk:Kt k e) (h1:k≠1):¬ (lo≤n∧n<hi):=by
 rcases hk with hk | hk
 ·exact absurd hk h1
 ·exact h.2.resolve_left hk
def Va7 (cs ds:List AV) (i:Nat):List AV:=cs.take (i*3)++ds++cs.drop (i*3)
end Ab
namespace Ab
open Go Go.RowKit Go.Proofs
attribute [local irreducible] aws awp aw1 Og Om Oc Oa Ogd Ov Ot awd Zb awh Xb Ogh Ohd awl Ogl Ohl awv Ogv Ohv Wb Vb QFn Ub QRo QBe ACode AYield
end Ab
namespace Ab
open Go Go.RowKit Go.Proofs
attribute [local irreducible] aws awp aw1 Og Om Oc Oa Ogd Ov Ot awd Zb awh Xb Ogh Ohd awl Ogl Ohl awv Ogv Ohv Wb Vb QFn Ub QRo QBe ACode AYield
def InsQ (σ:Za) (r n i:Nat) (cs ds:List AV) (v:AV) (σ':Za):Prop :=
 ∃ r',v=.arr 3 r' 0 (n+1)∧σ'[r']? = some (.cells (Va7 cs ds i))∧σ.length≤σ'.length∧(r'=r∨σ.length≤r')∧∀ j,j≠r→j<σ.length→σ'[j]? = σ[j]?
end Ab
namespace Ab
open Go Go.RowKit Go.Proofs
attribute [local irreducible] aws awp aw1 Og Om Oc Oa Ogd Ov Ot awd Zb awh Xb Ogh Ohd awl Ogl Ohl awv Ogv Ohv Wb Vb QFn Ub QRo QBe ACode AYield
def Uhw (a b:Oyez.Rec):Int:=if a.kind=b.kind then a.number - b.number else a.kind - b.kind
def Uhu (a:Oyez.Rec):Prop:=-2^40≤a.kind∧a.kind≤2^40∧-2^40≤a.number∧a.number≤2^40
end Ab
namespace Oyez
def Xhu:St→S
 | none=>[]
 | some ws=>32::Xai ws
def Vht (x:St):Prop:=∀ ws,x=some ws→∀ w∈ws,word w=true
theorem mem_getIn {f:List Rec} (hs:RSorted f) {r:Rec} (hr:r∈f):getIn f r.place=some r.words:=by
 induction f with
 | nil=>simp at hr
 | cons q t ih =>
  have hq:=List.pairwise_cons.1 hs
  rw [Xaj]
  rcases List.mem_cons.1 hr with rfl | hr
  ·rw [if_pos rfl]
  ·have h1:=hq.1 r.place (List.mem_map_of_mem hr)
   rw [if_neg (fun e=>by rw [e,Place.lt_irrefl] at h1;cases h1)]
   exact ih hq.2 hr
def clashAt (x y z:St):Bool:=decide (¬ y=z∧¬ y=x∧¬ z=x)
def confAt (base a b:List Rec) (p:Place):Bool:=clashAt (getIn base p) (getIn a p) (getIn b p)
def joinV (base a b:List Rec) (s:List Bool) (i:Nat) (p:Place):St :=
 if getIn a p=getIn b p∨getIn b p=getIn base p then getIn a p else if getIn a p=getIn base p then getIn b p else pickJ s i (getIn base p) (getIn a p) (getIn b p)
def Yad (base a b:List Rec):List Place:=placesOf ((base++a++b).map Rec.place)
def confsOf (base a b:List Rec):List Place:=(Yad base a b).filter (confAt base a b)
theorem Vd6 (base a b:List Rec) (s:List Bool) (J:Jn) (p:Place) :
  (Zr base a b s J p).out=J.out++(recAt (joinV base a b s J.conf.length) p).toList∧(Zr base a b s J p).conf.map Chg.place=J.conf.map Chg.place++if confAt base a b p then [p] else []:=by
 rw [joinAt_step]
 have hput:∀ (J:Jn) (w:St),(putJ J p w).out=J.out++(w.map fun ws=>(⟨p.kind,p.number,ws⟩:Rec)).toList∧(putJ J p w).conf=J.conf:=by
  intro J w
  unfold putJ
  cases w<;>simp
 unfold stepJ recAt joinV confAt clashAt
 by_cases h1:getIn a p=getIn b p∨getIn b p=getIn base p
 ·rw [if_pos h1,if_pos h1,(hput _ _).1,(hput _ _).2]
  refine ⟨rfl,?_⟩
  have:¬ (¬ getIn a p=getIn b p∧¬ getIn a p=getIn base p∧¬ getIn b p=getIn base p):=fun ⟨h2,_,h3⟩=>by rcases h1 with h | h<;>contradiction
  simp only [decide_eq_false this,Bool.false_eq_true,if_false,List.append_nil]
 ·rw [if_neg h1,if_neg h1]
  by_cases h2:getIn a p=getIn base p
  ·rw [if_pos h2,if_pos h2,(hput _ _).1,(hput _ _).2]
   refine ⟨rfl,?_⟩
   have:¬ (¬ getIn a p=getIn b p∧¬ getIn a p=getIn base p∧¬ getIn b p=getIn base p):=fun ⟨_,h3,_⟩=>h3 h2
   simp only [decide_eq_false this,Bool.false_eq_true,if_false,List.append_nil]
  ·rw [if_neg h2,if_neg h2,(hput _ _).1,(hput _ _).2]
   refine ⟨rfl,?_⟩
   rw [not_or] at h1
   have:¬ getIn a p=getIn b p∧¬ getIn a p=getIn base p∧¬ getIn b p=getIn base p:=⟨h1.1,h2,h1.2⟩
   simp only [decide_eq_true this,if_true]
   simp [chg,Chg.place]
theorem Vfq {α β:Type} (f:α→Option β) (l:List α) (x:α):(l++[x]).filterMap f=l.filterMap f++(f x).toList:=by
 rw [List.filterMap_append,List.filterMap_cons]
 cases f x<;>simp
theorem Xf2 {pre rest:List Place} {p:Place} (h:p∉pre):(pre++p::rest).idxOf p=pre.length:=by
 rw [List.idxOf_append,if_neg h,List.idxOf_cons_self,Nat.zero_add]
theorem join_pl (base a b:List Rec) (s:List Bool) :
  (join base a b s).out=(Yad base a b).filterMap (recAt fun p=>joinV base a b s ((confsOf base a b).idxOf p) p)∧(join base a b s).conf.map Chg.place=confsOf base a b:=by
 unfold join
 have hs:Sorted (Yad base a b):=placesOf_sorted _
 obtain ⟨ps,hps⟩:∃ ps,Yad base a b=ps:=⟨_,rfl⟩
 rw [hps] at hs ⊢
 have hps':placesOf ((base++a++b).map Rec.place)=ps:=hps
 rw [hps']
 have hc:confsOf base a b=ps.filter (confAt base a b):=by unfold confsOf;rw [hps]
 rw [hc]
 clear hc hps hps'
 suffices hh:∀ (rest pre:List Place) (J:Jn),ps=pre++rest→J.out=pre.filterMap (recAt fun p=>joinV base a b s ((ps.filter (confAt base a b)).idxOf p) p)→J.conf.map Chg.place=pre.filter (confAt base a b) →
   (rest.foldl (Zr base a b s) J).out=ps.filterMap (recAt fun p=>joinV base a b s ((ps.filter (confAt base a b)).idxOf p) p)∧(rest.foldl (Zr base a b s) J).conf.map Chg.place=ps.filter (confAt base a b) from
  hh ps [] ⟨[],[]⟩ rfl rfl rfl
 intro rest
 induction rest with
 | nil =>
  intro pre J e h1 h2
  rw [List.append_nil] at e
  subst e
  exact ⟨h1,h2⟩
 | cons p t ih =>
  intro pre J e h1 h2
  rw [List.foldl_cons]
  obtain ⟨k1,k2⟩:=Vd6 base a b s J p
  have hnp:p∉pre:=fun hm=>by
   unfold Sorted at hs
   rw [e,List.pairwise_append] at hs
   have:=hs.2.2 p hm p (by simp)
   rw [Place.lt_irrefl] at this
   cases this
  refine ih (pre++[p]) _ (by simp [e]) ?_ ?_
  ·rw [k1,h1,Vfq]
   congr 2
   unfold recAt
   congr 1
   by_cases hcf:confAt base a b p=true
   ·have hl:J.conf.length=(ps.filter (confAt base a b)).idxOf p:=by
     rw [e,List.filter_append,List.filter_cons,if_pos hcf,Xf2 (fun hm=>hnp (List.mem_filter.1 hm).1),← h2,List.length_map]
    rw [hl]
   ·have hno:∀ i j,joinV base a b s i p=joinV base a b s j p:=by
     intro i j
     unfold joinV
     split
     ·rfl
     ·rename_i g1
      split
      ·rfl
      ·rename_i g2
       refine absurd ?_ hcf
       unfold confAt clashAt
       rw [not_or] at g1
       exact decide_eq_true ⟨g1.1,g2,g1.2⟩
    exact hno _ _
  ·rw [k2,h2,List.filter_append,List.filter_cons]
   split<;>simp_all
theorem mem_joinPl {base a b:List Rec} {p:Place}:p∈Yad base a b↔p∈base.map Rec.place∨p∈a.map Rec.place∨p∈b.map Rec.place:=by
 unfold Yad
 rw [Wb5,List.map_append,List.map_append,List.mem_append,List.mem_append,or_assoc]
theorem Vcs {base a b:List Rec} {s:List Bool} {i:Nat} {p:Place} (h:p∉Yad base a b):joinV base a b s i p=none∧confAt base a b p=false:=by
 rw [mem_joinPl,not_or,not_or] at h
 unfold joinV confAt clashAt
 rw [getIn_none h.1,getIn_none h.2.1,getIn_none h.2.2]
 simp
theorem mem_confs {base a b:List Rec} {p:Place}:p∈confsOf base a b↔confAt base a b p=true:=by
 unfold confsOf
 rw [List.mem_filter]
 refine ⟨fun h=>h.2,fun h=>⟨?_,h⟩⟩
 by_cases hm:p∈Yad base a b
 ·exact hm
 ·rw [(Vcs (s:=[]) (i:=0) hm).2] at h;cases h
theorem sorted_nodup {l:List Place} (h:Sorted l):l.Nodup:=List.Pairwise.imp (fun {a b} h e=>by rw [e,Place.lt_irrefl] at h;cases h) h
theorem nodup_sub_len {l m:List Place} (h:l.Nodup) (hs:∀ p∈l,p∈m):l.length≤m.length:=by
 induction l generalizing m with
 | nil=>simp
 | cons x t ih =>
  rw [List.nodup_cons] at h
  have hx:=hs x (by simp)
  have h1:=ih (m:=m.erase x) h.2 fun p hp=>(List.mem_erase_of_ne (fun e:p=x=>h.1 (by rw [← e];exact hp))).2 (hs p (by simp [hp]))
  rw [List.length_erase_of_mem hx] at h1
  have:0<m.length:=List.length_pos_of_mem hx
  simp only [List.length_cons]
  omega
theorem right_check {f:List Rec} (h:Right f):check f=0:=by
 unfold check
 rw [if_neg (by have:=h.len;omega)]
 have key:∀ (f:List Rec) (p:Option Place),(∀ r∈f,recErr r=0)→RSorted f→(∀ q,p=some q→∀ r∈f,q.lt r.place=true)→checkFrom p f=0:=by
  intro f
  induction f with
  | nil=>intro p _ _ _;rfl
  | cons r t ih =>
   intro p h1 h2 h3
   have hq:=List.pairwise_cons.1 h2
   rw [checkFrom,if_neg (by simpa using h1 r (by simp)),if_neg]
   ·exact ih _ (fun x hx=>h1 x (by simp [hx])) hq.2 fun q e x hx=>by
     obtain rfl:=Option.some.inj e
     exact hq.1 _ (List.mem_map_of_mem hx)
   ·cases p with
    | none=>simp
    | some q=>simp [h3 q rfl r (by simp)]
 exact key f none h.recs h.sorted fun q e=>by cases e
def Xh3 (f g:List Rec):List Place:=placesOf ((f++g).map Rec.place)
end Oyez
namespace Ab
open Go Go.RowKit Go.Proofs
attribute [local irreducible] aws awp aw1 Og Om Oc Oa Ogd Ov Ot awd Zb Wb Vb QFn Ub ACode AYield
def Wh1 (o:Option (List Bool)):AV:=match o with | none=>.nils | some l=>.pl 1 (l.map AV.bool)
end Ab

/-
  Texts packed for a claim.
-/
import Derived.Test.YtcoikmapjepdjaaGreatDoorE00
import Derived.Lib.Overlaps
import Derived.Test.YtcoikmapjepdjaaGreatDoorE15
import Derived.Test.YtcoikmapjepdjaaGreatDoorE11
import Derived.Test.YtcoikmapjepdjaaGreatDoorE12
import Derived.Test.YtcoikmapjepdjaaGreatDoorE20
import Derived.Test.YtcoikmapjepdjaaGreatDoorE21
set_option linter.all false
namespace Ab
open Go Go.RowKit Go.Proofs
attribute [local irreducible] aws awp aw1 Og Om Oc Oa Ogd Ov Ot awd Ua awh Xb Ogh Ohd awl Ogl Ohl awv Ogv Ohv Wb Vb QFn Zc QRo QBe ACode AYield
def Zde (ws:List (List UInt8)):Bool:=ws.any (fun w=>decide (90<w.length))||decide (10<ws.length)
def Wia (f:List Oyez.Rec):Bool:=f.any (fun r=>Zde r.words)||decide (60<f.length)
def Ue8 (l:List Bool):AV:=.pl 1 (l.map AV.bool)
attribute [simp] Ue8
theorem Ues {α:Type} (l:List α) (k:Nat) (f:α→Nat) (h:∀ a,f a=k):(l.map f).sum=l.length*k:=by
 induction l with
 | nil=>simp
 | cons a t ih=>rw [List.map_cons,List.sum_cons,ih,h,List.length_cons,Nat.add_mul];omega
theorem Xc1 {σ g:Za} {k:Nat} (xs:List AV) (h:∀ x∈xs,x.cells.length=k∧∀ y∈x.cells,y.one=true) (hf:∀ (n:Nat) (τ:Za),∀ x∈xs,∀ y∈x.cells,Fz n τ y y):Fz σ.length (σ++.cells (xs.flatMap AV.cells)::g) (.arr k σ.length 0 xs.length) (.pl k xs) :=
 Acc.fz (o:=some 0) ⟨h,rfl,rfl⟩ (hf _ _)
def Xn (f:List Oyez.Rec):List AV:=f.flatMap Vas
theorem Xh0 (f:List Oyez.Rec):(f.map Zm).flatMap AV.cells=Xn f:=by unfold Xn;rw [List.flatMap_map];rfl
theorem Ye8 (f:List Oyez.Rec):(Xn f).length=f.length*3:=by
 unfold Xn
 induction f with
 | nil=>rfl
 | cons p t ih=>rw [List.flatMap_cons,List.length_append,ih];simp [Vas];omega
end Ab
namespace Ab
open Go Go.RowKit Go.Proofs
def Zam (l:List Int):AV:=.pl 1 (l.map fun x=>AV.int .i64 x)
def Zcd (l:List (List Int)):AV:=.pl 1 (l.map Zam)
def Wfe (x:Cr):AV:=.agg [.int .i64 x.hour,.int .i64 x.stand,.int .i64 x.notice]
attribute [local irreducible] aws awp aw1 Og Om Oc Oa Ogd Ov Ot awd Ua awh Xb Ogh Ohd awl Ogl Ohl awv Ogv Ohv Wb Vb QFn Zc QRo QBe ACode AYield
theorem Yed (l:List Int) (hl:l.length≤2^30):APure Tryz.prog 10 [Zam l] (Zam l):=by
 refine APure.of fun σ=>?_
 refine Yb Tryz.func10 rfl (Zb Tryz.func10 (by decide) rfl) ?_
 have h1:(l.length:Int)*8≤281474976710656:=by omega
 have h2:(l.length:Int)≤9223372036854775807:=by omega
 simp [Tryz.ntmps10,h1,h2,Zam]
 rw [Ues l 1]
 case h=>exact fun _=>rfl
 rw [Nat.mul_one,Nat.sub_self,List.replicate_zero,List.append_nil]
 have:=Xc1 (σ:=σ) (g:=[]) (k:=1) (l.map fun x=>AV.int .i64 x) (fun x hx=>by obtain ⟨b,_,rfl⟩:=List.mem_map.1 hx;exact ⟨rfl,by simp [AV.cells,AV.one]⟩) (fun n τ x hx y hy=>by
  obtain ⟨b,_,rfl⟩:=List.mem_map.1 hx
  simp [AV.cells] at hy;subst hy;exact .int _ _)
 rwa [List.length_map] at this
end Ab
namespace Ab
open Go Go.RowKit Go.Proofs
section
variable [Mode]
variable {P:Program}
def Ybk (n:Nat) (S:Za) (o:AObj):Prop:=(∃ cs,o=.cells cs∧∀ y∈cs,Fz n S y y)∨∃ es,o=.map es∧∀ e∈es,Fz n S e.1 e.1∧Fz n S e.2 e.2
theorem Inv.frzM {C₀ C:Ctx} {σ τ g:Za} (hI₀:Inv C₀ σ) (hE:Ext C₀ C) (hI:Inv C (τ++g)) (hlt:τ.length=σ.length)
  (hold:∀ (r:Nat) (o:AObj),τ[r]? = some o→σ[r]? = some o∨Ybk τ.length (τ++g) o):Inv (C.frz τ.length (τ++g)) τ:=by
 have hlen:=hI.len
 have hlen₀:=hI₀.len
 simp at hlen
 have hb:∀ r b,(C.frz τ.length (τ++g)).blk[r]? = some b→C.blk[r]? = some b∧r<τ.length:=by
  intro r b hr
  simp only [Ctx.frz] at hr
  rcases Qzn r τ.length with h | h
  ·rw [List.getElem?_take_of_lt h] at hr;exact ⟨hr,h⟩
  ·rw [List.getElem?_eq_none (by simp;omega)] at hr;cases hr
 have up:∀ (r:Nat) (o:AObj),r<τ.length→τ[r]? = some o→(τ++g)[r]? = some o:=fun r o h1 h2=>by rw [Qzl h1];exact h2
 refine ⟨by simp [Ctx.frz,hlen],hI.glob,hI.base,fun b hb=>.inl (hI.basep b hb),fun b hb=>?_,fun r b o hr ho hl=>?_,fun r1 r2 b o1 o2 h1 h2 ho1 ho2 hl1 hl2=>?_⟩
 ·rcases hb with hb | ⟨r,o,_,h1,h2,h3⟩
  ·exact hI.plt b hb
  ·obtain ⟨_,c,hc,_⟩:=hI.live r b o h1 h2 h3
   exact (Array.getElem?_eq_some_iff.1 hc).1
 ·obtain ⟨h1,h2⟩:=hb r b hr
  obtain ⟨hnp,c,hc,hR⟩:=hI.live r b o h1 (up r o h2 ho) hl
  refine ⟨?_,c,hc,?_⟩
  ·rintro (hp | ⟨r',o',g1,g2,g3,g4⟩)
   ·exact hnp hp
   ·have:=hI.inj r r' b o o' h1 g2 (up r o h2 ho) g3 hl g4
    omega
  ·rcases hold r o ho with ho | ⟨cs,rfl,hz⟩ | ⟨es,rfl,hz⟩
   ·have h0:C₀.blk[r]? = some (C₀.blk[r]'(by omega)):=Qze (by omega)
    obtain ⟨_,c₀,_,hR₀⟩:=hI₀.live r _ o h0 ho hl
    exact hR₀.frz_old (by omega) hR
   ·cases hR with
    | cells _ vs e lo hi q1 q2 q3 =>
     refine .cells cs vs e lo hi q1 q2 fun i x v hx hv=>?_
     exact (q3 i x v hx hv).frz hI (hz x (Qzg hx))
   ·cases hR with
    | map _ ces clock q1 q2 =>
     refine .map es ces clock q1 fun i x e hx he=>?_
     have:=q2 i x e hx he
     exact ⟨this.1.frz hI (hz x (Qzg hx)).1,this.2.frz hI (hz x (Qzg hx)).2⟩
 ·obtain ⟨h1,h1'⟩:=hb r1 b h1
  obtain ⟨h2,h2'⟩:=hb r2 b h2
  exact hI.inj r1 r2 b o1 o2 h1 h2 (up _ _ h1' ho1) (up _ _ h2' ho2) hl1 hl2
theorem ACalls.forgetM {f:FuncId} {args:List AV} {σ:Za} {R:AV→Za→Prop} (h:ACalls P f args σ fun v σ'=>∃ τ g v',σ'=τ++g∧τ.length=σ.length ∧
   (∀ (r:Nat) (o:AObj),τ[r]? = some o→σ[r]? = some o∨Ybk τ.length (τ++g) o)∧Fz τ.length σ' v v'∧R v' τ):ACalls P f args σ R:=by
 have ext:∀ {C C':Ctx} {τ g:Za},Inv C σ→Ext C C'→τ.length=σ.length→Ext C (C'.frz τ.length (τ++g)):=by
  intro C C' τ g hI hE hl
  obtain ⟨e,he⟩:=hE.blk
  have hl0:=hI.len
  exact ⟨hE.w0,⟨[],by simp only [Ctx.frz];rw [he,List.append_nil,hl,← hl0,List.take_left]⟩,fun b hb=>.inl (hE.pers b hb),hE.keep,hE.shape,hE.size,hE.drawn⟩
 rcases h with h | h
 ·refine .inl ⟨h.1,fun C cargs hI hv=>(h.2 C cargs hI hv).mono ?_⟩
  rintro e w' ⟨v,C',av,σ',rfl,rfl,hE,hI',hv',τ,g,v',rfl,hl,ho,hf,hR⟩
  exact ⟨v,C'.frz τ.length (τ++g),v',τ,rfl,rfl,ext hI hE hl,hI.frzM hE hI' hl ho,hv'.frz hI' hf,hR⟩
 ·refine .inr fun C cargs hI hv=>?_
  obtain ⟨v,C',av,σ',hr,hE,hI',hv',τ,g,v',rfl,hl,ho,hf,hR⟩:=h C cargs hI hv
  exact ⟨v,C'.frz τ.length (τ++g),v',τ,hr,ext hI hE hl,hI.frzM hE hI' hl ho,hv'.frz hI' hf,hR⟩
end
end Ab
namespace Ab
open Go Go.RowKit
variable [Mode]
variable {P:Program}
theorem Inv.retell {C:Ctx} {σ:Za} (hI:Inv C σ) {r b:Nat} {o o':AObj} (hb:C.blk[r]? = some b) (ho:σ[r]? = some o) (hl:o.live=true) (hR:∀ c,C.w.heap[b]? = some c→ORel C o c→ORel C o' c):Inv C (σ.set r o'):=by
 have hrl:=(Qzs.1 ho).1
 have old:∀ (q:Nat) (p:AObj),(σ.set r o')[q]? = some p→p.live=true→∃ p',σ[q]? = some p'∧p'.live=true:=by
  intro q p hq hp
  by_cases e:r=q
  ·subst e;exact ⟨o,ho,hl⟩
  ·rw [List.getElem?_set_ne e] at hq;exact ⟨p,hq,hp⟩
 refine ⟨by rw [List.length_set];exact hI.len,hI.glob,hI.base,hI.basep,hI.plt,fun q b' p hq hp hpl=>?_,fun q q' b' p p' hq hq' hp hp' hpl hpl'=>?_⟩
 ·by_cases e:r=q
  ·subst e
   rw [List.getElem?_set_self hrl] at hp
   obtain rfl:=Option.some.inj hp
   rw [hb] at hq
   obtain rfl:=Option.some.inj hq
   obtain ⟨h1,c,h2,h3⟩:=hI.live r b o hb ho hl
   exact ⟨h1,c,h2,hR c h2 h3⟩
  ·rw [List.getElem?_set_ne e] at hp
   exact hI.live q b' p hq hp hpl
 ·obtain ⟨x,hx,hxl⟩:=old q p hp hpl
  obtain ⟨x',hx',hxl'⟩:=old q' p' hp' hpl'
  exact hI.inj q q' b' x x' hq hq' hx hx' hxl hxl'
theorem ACalls.room {f:FuncId} {k r off len:Nat} {rest:List AV} {σ:Za} {cs:List AV} {R:AV→Za→Prop} (hen:Enters P f) (hr:σ[r]? = some (.cells cs)) (hcl:cs.length=(off+len)*k)
  (h:∀ cap,len≤cap→ACalls P f (.arc k r off len cap::rest) (σ.set r (.cells (cs++List.replicate ((cap - len)*k) .any))) fun v σ'=>∃ v' cs' tl,
   (v=v'∨∃ k2 r2 o2 l2 c2,v=.arc k2 r2 o2 l2 c2∧v'=.arr k2 r2 o2 l2)∧σ'[r]? = some (.cells (cs'++tl))∧R v' (σ'.set r (.cells cs'))):ACalls P f (.arr k r off len::rest) σ R:=by
 have hrl:=(Qzs.1 hr).1
 refine .inl ⟨hen,fun C cargs hI hv=>?_⟩
 obtain ⟨c,cs',rfl,hx,hrest⟩:=hv.inv
 obtain ⟨b,cap,e,n,hb,hcap,hsh,hbd,rfl⟩:=hx.arr_inv
 obtain ⟨hnp,carr,e',lo,hi,hc,hsz,hfr,hrel⟩:=hI.cells hb hr
 have hn:carr.size=n:=by
  simp [World.shape?,hc] at hsh
  exact hsh.2
 have hI2:Inv C (σ.set r (.cells (cs++List.replicate ((cap - len)*k) .any))):=hI.retell hb hr rfl fun c hc' _=>by
  rw [hc] at hc'
  obtain rfl:=Option.some.inj hc'
  refine .cells _ carr e' lo hi ?_ hfr fun i x d hx hd=>?_
  ·rw [List.length_append,List.length_replicate,hcl,hn,← Nat.add_mul,show off+len+(cap - len)=off+cap by omega]
   exact hbd.1
  ·rcases Qzn i cs.length with h1 | h1
   ·rw [Qzl h1] at hx
    exact hrel i x d hx hd
   ·rw [Qzr h1] at hx
    have:=Qzg hx
    rw [List.mem_replicate] at this
    rw [this.2]
    exact .any d
 have hv2:VRs C (.arc k r off len cap::rest) (.slice (some ⟨b,off*k,none⟩) len cap::cs'):=.cons (.arc k r off len b cap e n hb hcap hsh hbd) hrest
 have fin:∀ {C':Ctx} {v:AV} {d:Value} {σ':Za},Ext C C'→Inv C' σ'→VR C' v d→(∃ v' cs' tl,(v=v'∨∃ k2 r2 o2 l2 c2,v=.arc k2 r2 o2 l2 c2∧v'=.arr k2 r2 o2 l2)∧σ'[r]? = some (.cells (cs'++tl))∧R v' (σ'.set r (.cells cs'))) →
   ∃ (v':AV) (σ2:Za),Inv C' σ2∧VR C' v' d∧R v' σ2:=by
  rintro C' v d σ' hE hI' hv' ⟨v',ds,tl,hvv,hr',hR⟩
  refine ⟨v',_,hI'.retell (hE.blk_at hb) hr' rfl fun c hc' hrel=>?_,?_,hR⟩
  ·obtain ⟨carr,e,lo,hi,rfl,h1,h2,h3⟩:=hrel.cells_inv
   refine .cells ds carr e lo hi (by rw [List.length_append] at h1;omega) h2 fun i x d hx hd=>h3 i x d ?_ hd
   rw [Qzl (Qzs.1 hx).1]
   exact hx
  ·rcases hvv with rfl | ⟨k2,r2,o2,l2,c2,rfl,rfl⟩
   ·exact hv'
   ·obtain ⟨b2,e2,n2,q1,q2,q3,q4,rfl⟩:=hv'.arc_inv
    exact .arr k2 r2 o2 l2 b2 c2 e2 n2 q1 q2 q3 q4
 rcases h cap hcap with h | h
 ·refine (h.2 C _ hI2 hv2).mono ?_
  rintro en w' ⟨d,C',av,σ',rfl,rfl,hE,hI',hv',hR⟩
  obtain ⟨v',σ2,a1,a2,a3⟩:=fin hE hI' hv' hR
  exact ⟨d,C',v',σ2,rfl,rfl,hE,a1,a2,a3⟩
 ·obtain ⟨d,C',av,σ',hrun,_⟩:=h C _ hI2 hv2
  rw [hen] at hrun
  cases hrun
end Ab
namespace Ab
open Go Go.RowKit Go.Proofs
attribute [local irreducible] aws awp aw1 Og Om Oc Oa Ogd Ov Ot awd Ua awh Xb Ogh Ohd awl Ogl Ohl awv Ogv Ohv Wb Vb QFn Zc QRo QBe ACode AYield
theorem Fr.tail {n e lo hi k:Nat} (h:Fr n e lo hi) (hk:Kt k e) (h1:k≠1):¬ (lo≤n∧n<hi):=by
 rcases hk with hk | hk
 ·exact absurd hk h1
 ·exact h.2.resolve_left hk
def Ubp (cs ds:List AV) (i:Nat):List AV:=cs.take (i*3)++ds++cs.drop (i*3)
end Ab
namespace Ab
open Go Go.RowKit Go.Proofs
attribute [local irreducible] aws awp aw1 Og Om Oc Oa Ogd Ov Ot awd Ua awh Xb Ogh Ohd awl Ogl Ohl awv Ogv Ohv Wb Vb QFn Zc QRo QBe ACode AYield
end Ab
namespace Ab
open Go Go.RowKit Go.Proofs
attribute [local irreducible] aws awp aw1 Og Om Oc Oa Ogd Ov Ot awd Ua awh Xb Ogh Ohd awl Ogl Ohl awv Ogv Ohv Wb Vb QFn Zc QRo QBe ACode AYield
def InsQ (σ:Za) (r n i:Nat) (cs ds:List AV) (v:AV) (σ':Za):Prop :=
 ∃ r',v=.arr 3 r' 0 (n+1)∧σ'[r']? = some (.cells (Ubp cs ds i))∧σ.length≤σ'.length∧(r'=r∨σ.length≤r')∧∀ j,j≠r→j<σ.length→σ'[j]? = σ[j]?
end Ab
namespace Ab
open Go Go.RowKit Go.Proofs
attribute [local irreducible] aws awp aw1 Og Om Oc Oa Ogd Ov Ot awd Ua awh Xb Ogh Ohd awl Ogl Ohl awv Ogv Ohv Wb Vb QFn Zc QRo QBe ACode AYield
def Viy (a b:Oyez.Rec):Int:=if a.kind=b.kind then a.number - b.number else a.kind - b.kind
def Uii (a:Oyez.Rec):Prop:=-2^40≤a.kind∧a.kind≤2^40∧-2^40≤a.number∧a.number≤2^40
end Ab
namespace Ab
open Go Go.RowKit Go.Proofs
attribute [local irreducible] aws awp aw1 Og Om Oc Oa Ogd Ov Ot awd Ua awh Xb Ogh Ohd awl Ogl Ohl awv Ogv Ohv Wb Vb QFn Zc QRo QBe ACode AYield
theorem Ub8 (l m:List Oyez.Rec):Xn (l++m)=Xn l++Xn m:=by unfold Xn;rw [List.flatMap_append]
theorem Udk (l:List Oyez.Rec) (i:Nat) (h:i≤l.length):(Xn l).take (i*3)=Xn (l.take i)∧(Xn l).drop (i*3)=Xn (l.drop i):=by
 have e:Xn l=Xn (l.take i)++Xn (l.drop i):=by rw [← Ub8,List.take_append_drop]
 have h1:(Xn (l.take i)).length=i*3:=by rw [Ye8,List.length_take];omega
 rw [e,← h1]
 exact ⟨List.take_left,List.drop_left⟩
def Yak (l:List Oyez.Rec) (t:Oyez.Rec) (i:Nat):List Oyez.Rec:=l.take i++t::l.drop i
theorem Yh2 (l:List Oyez.Rec) (t:Oyez.Rec) (i:Nat) (h:i≤l.length):Ubp (Xn l) (Vas t) i=Xn (Yak l t i):=by
 obtain ⟨h1,h2⟩:=Udk l i h
 unfold Ubp Yak
 rw [h1,h2,Ub8]
 show _=_++(Vas t++Xn (l.drop i))
 rw [List.append_assoc]
structure PlaceAt (l:List Oyez.Rec) (t:Oyez.Rec) (i:Nat):Prop where
 le:i≤l.length
 lo:∀ (m:Nat) (h:m<l.length),m<i→l[m].place.lt t.place=true
 hi:∀ (m:Nat) (h:m<l.length),i≤m→l[m].place.lt t.place=false
theorem PlaceAt.found {l:List Oyez.Rec} {t:Oyez.Rec} {i:Nat} (hs:Oyez.RSorted l) (h:PlaceAt l t i):t.place∈l.map Oyez.Rec.place↔∃ hi:i<l.length,l[i].place=t.place:=by
 constructor
 ·intro hm
  obtain ⟨x,hx,e⟩:=List.mem_map.1 hm
  obtain ⟨m,hml,rfl⟩:=List.mem_iff_getElem.1 hx
  have h1:i≤m:=by
   rcases Qzn m i with h2 | h2
   ·have:=h.lo m hml h2
    rw [e,Oyez.Place.lt_irrefl] at this
    cases this
   ·exact h2
  rcases Qzn i m with h2 | h2
  ·have h3:=h.hi i (by omega) (Nat.le_refl _)
   unfold Oyez.RSorted Oyez.Sorted at hs
   rw [List.pairwise_map] at hs
   have:=List.pairwise_iff_getElem.1 hs i m (by omega) hml h2
   rw [e,h3] at this
   cases this
  ·obtain rfl:m=i:=by omega
   exact ⟨hml,e⟩
 ·rintro ⟨hi,e⟩
  exact e▸List.mem_map_of_mem (List.getElem_mem hi)
theorem PlaceAt.sorted {l:List Oyez.Rec} {t:Oyez.Rec} {i:Nat} (hs:Oyez.RSorted l) (h:PlaceAt l t i) (hn:t.place∉l.map Oyez.Rec.place):Oyez.RSorted (Yak l t i):=by
 unfold Oyez.RSorted Oyez.Sorted Yak at *
 rw [List.pairwise_map] at hs ⊢
 have e:l=l.take i++l.drop i:=(List.take_append_drop i l).symm
 rw [e,List.pairwise_append] at hs
 obtain ⟨s1,s2,s3⟩:=hs
 have low:∀ x∈l.take i,x.place.lt t.place=true:=fun x hx=>by
  obtain ⟨m,hm,rfl⟩:=List.mem_iff_getElem.1 hx
  rw [List.length_take] at hm
  rw [List.getElem_take]
  exact h.lo m (by omega) (by omega)
 have high:∀ x∈l.drop i,t.place.lt x.place=true:=fun x hx=>by
  have hxl:x∈l:=List.mem_of_mem_drop hx
  obtain ⟨m,hm,rfl⟩:=List.mem_iff_getElem.1 hx
  rw [List.length_drop] at hm
  have h1:=h.hi (i+m) (by omega) (by omega)
  rw [List.getElem_drop] at hxl ⊢
  cases h2:t.place.lt l[i+m].place with
  | true=>rfl
  | false=>exact absurd (Oyez.Place.lt_tri h1 h2▸List.mem_map_of_mem hxl) hn
 refine List.pairwise_append.2 ⟨s1,List.pairwise_cons.2 ⟨high,s2⟩,fun x hx y hy=>?_⟩
 rcases List.mem_cons.1 hy with rfl | hy
 ·exact low x hx
 ·exact s3 x hx y hy
theorem InsQ.acc {τ g:Za} {l:List Oyez.Rec} {t:Oyez.Rec} {i j:Nat} {v:AV} {σ':Za} (h:InsQ (τ++g) (τ.length+j) l.length i (Xn l) (Vas t) v σ') (hi:i≤l.length) :
  ∃ g' j',σ'=τ++g'∧Acc τ g' 3 v ((Yak l t i).map Zm) (some j'):=by
 obtain ⟨r',rfl,h1,h2,h3,h4⟩:=h
 rw [List.length_append] at h2
 have ht:σ'.take τ.length=τ:=by
  apply List.ext_getElem?
  intro k
  rcases Qzn k τ.length with hk | hk
  ·rw [List.getElem?_take_of_lt hk,h4 k (by omega) (by rw [List.length_append];omega),Qzl hk]
  ·rw [List.getElem?_eq_none (by rw [List.length_take];omega),List.getElem?_eq_none hk]
 have hr':τ.length≤r':=by
  rcases h3 with h3 | h3
  ·omega
  ·rw [List.length_append] at h3;omega
 have hl:(Yak l t i).length=l.length+1:=by
  unfold Yak
  rw [List.length_append,List.length_cons,List.length_take,List.length_drop]
  omega
 refine ⟨σ'.drop τ.length,r' - τ.length,?_,⟨fun x hx=>?_,?_,?_⟩⟩
 ·conv=>lhs;rw [← List.take_append_drop τ.length σ',ht]
 ·obtain ⟨r,_,rfl⟩:=List.mem_map.1 hx
  exact ⟨rfl,by simp [AV.cells,AV.one]⟩
 ·rw [List.length_map,hl,show τ.length+(r' - τ.length)=r' by omega]
 ·rw [List.getElem?_drop,show τ.length+(r' - τ.length)=r' by omega,h1,Yh2 l t i hi,Xh0]
end Ab
namespace Ab
open Go Go.RowKit Go.Proofs
section
variable [Mode]
theorem ACalls.fit {P:Program} {f:FuncId} {args:List AV} {σ:Za} {R:AV→Za→Prop}
  (h:ACalls P f args σ fun v σ'=>∃ (v':AV) (r:Nat) (cs tl:List AV),(v=v'∨∃ k2 r2 o2 l2 c2,v=.arc k2 r2 o2 l2 c2∧v'=.arr k2 r2 o2 l2)∧σ'[r]? = some (.cells (cs++tl))∧R v' (σ'.set r (.cells cs))):ACalls P f args σ R:=by
 have fin:∀ {C':Ctx} {v:AV} {d:Value} {σ':Za},Inv C' σ'→VR C' v d→(∃ (v':AV) (r:Nat) (cs tl:List AV),(v=v'∨∃ k2 r2 o2 l2 c2,v=.arc k2 r2 o2 l2 c2∧v'=.arr k2 r2 o2 l2)∧σ'[r]? = some (.cells (cs++tl))∧R v' (σ'.set r (.cells cs))) →
   ∃ (v':AV) (σ2:Za),Inv C' σ2∧VR C' v' d∧R v' σ2:=by
  rintro C' v d σ' hI' hv' ⟨v',r,ds,tl,hvv,hr',hR⟩
  have hb:∃ b,C'.blk[r]? = some b:=by
   have:=(Qzs.1 hr').1
   have hl:=hI'.len
   exact ⟨_,Qze (by omega)⟩
  obtain ⟨b,hb⟩:=hb
  refine ⟨v',_,hI'.retell hb hr' rfl fun c hc' hrel=>?_,?_,hR⟩
  ·obtain ⟨carr,e,lo,hi,rfl,h1,h2,h3⟩:=hrel.cells_inv
   refine .cells ds carr e lo hi (by rw [List.length_append] at h1;omega) h2 fun i x d hx hd=>h3 i x d ?_ hd
   rw [Qzl (Qzs.1 hx).1]
   exact hx
  ·rcases hvv with rfl | ⟨k2,r2,o2,l2,c2,rfl,rfl⟩
   ·exact hv'
   ·obtain ⟨b2,e2,n2,q1,q2,q3,q4,rfl⟩:=hv'.arc_inv
    exact .arr k2 r2 o2 l2 b2 c2 e2 n2 q1 q2 q3 q4
 rcases h with h | h
 ·refine .inl ⟨h.1,fun C cargs hI hv=>(h.2 C cargs hI hv).mono ?_⟩
  rintro en w' ⟨d,C',av,σ',rfl,rfl,hE,hI',hv',hR⟩
  obtain ⟨v',σ2,a1,a2,a3⟩:=fin hI' hv' hR
  exact ⟨d,C',v',σ2,rfl,rfl,hE,a1,a2,a3⟩
 ·refine .inr fun C cargs hI hv=>?_
  obtain ⟨d,C',av,σ',hrun,hE,hI',hv',hR⟩:=h C cargs hI hv
  obtain ⟨v',σ2,a1,a2,a3⟩:=fin hI' hv' hR
  exact ⟨d,C',v',σ2,hrun,hE,a1,a2,a3⟩
theorem Wea {P:Program} {rd:Option Nat} {c:Code} {Q:Exit→Env→Za→Prop} {t:List AV} {m:List Nat} {σ:Za} {q k r len:Nat} {cs:List AV} (ht:tg t q=.arr k r 0 len) (hq:q<t.length) (hr:σ[r]? = some (.cells cs)) (hcl:cs.length=len*k)
  (h:∀ cap,len≤cap→ACode P rd c Q { t:=ts t q (.arc k r 0 len cap),m:=m } (σ.set r (.cells (cs++List.replicate ((cap - len)*k) .any)))):ACode P rd c Q { t:=t,m:=m } σ:=by
 intro C a ro hI he hro
 have hta:t[q]? = some (.arr k r 0 len):=by
  rw [Qze hq]
  have:tg t q=t[q]:=by unfold tg;rw [List.getD_eq_getElem?_getD,Qze hq];rfl
  rw [← this,ht]
 have hlen:t.length=_:=he.t.len
 have hca:a.tmps.toList[q]? = some (a.tmps.toList[q]'(by omega)):=Qze (by omega)
 have hx:=he.t.at_ q _ _ hta hca
 obtain ⟨b,cap,e,n,hb,hcap,hsh,hbd,hce⟩:=hx.arr_inv
 obtain ⟨hnp,carr,e',lo,hi,hc,hsz,hfr,hrel⟩:=hI.cells hb hr
 have hn:carr.size=n:=by
  simp [World.shape?,hc] at hsh
  exact hsh.2
 have hI2:Inv C (σ.set r (.cells (cs++List.replicate ((cap - len)*k) .any))):=hI.retell hb hr rfl fun c hc' _=>by
  rw [hc] at hc'
  obtain rfl:=Option.some.inj hc'
  refine .cells _ carr e' lo hi ?_ hfr fun i x d hx hd=>?_
  ·rw [List.length_append,List.length_replicate,hcl,hn,← Nat.add_mul,show len+(cap - len)=0+cap by omega]
   exact hbd.1
  ·rcases Qzn i cs.length with h1 | h1
   ·rw [Qzl h1] at hx
    exact hrel i x d hx hd
   ·rw [Qzr h1] at hx
    have:=Qzg hx
    rw [List.mem_replicate] at this
    rw [this.2]
    exact .any d
 have hv2:VR C (.arc k r 0 len cap) a.tmps.toList[q]:=by rw [hce];exact .arc k r 0 len b cap e n hb hcap hsh hbd
 refine h cap hcap C a ro hI2 ⟨⟨?_,fun i x d hx hd=>?_⟩,he.m,he.mark⟩ hro
 ·show (ts t q _).length=_
  rw [Wb7];exact hlen
 ·show VR C x d
  have hx':(t.set q (.arc k r 0 len cap))[i]? = some x:=hx
  by_cases hiq:q=i
  ·subst hiq
   rw [List.getElem?_set_self hq] at hx'
   obtain rfl:=Option.some.inj hx'
   rw [hca] at hd
   obtain rfl:=Option.some.inj hd
   exact hv2
  ·rw [List.getElem?_set_ne hiq] at hx'
   exact he.t.at_ i x d hx' hd
theorem Zf1 {P:Program} {f:FuncId} {fn:Func} {c:Code} {args:List AV} {σ:Za} {R:AV→Za→Prop} (n:Nat) (I:Env→Za→Prop) (hf:P.funcs[f]? = some fn) (hb:fn.body=some c) (hen:Enters P f)
  (h1:awp P none (Yh n c).1 (Wb I (QFn P fn R)) { t:=te args fn.ntmps } σ) (h2:∀ (env:Env) (σ:Za),I env σ→ACode P none (Yh n c).2 (QFn P fn R) env σ):ACalls P f args σ R:=by
 refine Vao hf hb hen ?_
 have key:∀ (n:Nat) (c:Code) (Q:Exit→Env→Za→Prop) (env:Env) (σ:Za),(∀ (env:Env) (σ:Za),I env σ→ACode P none (Yh n c).2 Q env σ)→awp P none (Yh n c).1 (Wb I Q) env σ→ACode P none c Q env σ:=by
  intro n
  induction n with
  | zero =>
   intro c Q env σ h2 h1
   rw [Xbj] at h1
   have:=h2 _ _ h1
   have e:(Yh 0 c).2=c:=by cases c<;>rfl
   rwa [e] at this
  | succ n ih =>
   intro c Q env σ h2 h1
   have skip:(Yh (n+1) c)=(.skip,c)→ACode P none c Q env σ:=by
    intro e
    rw [e] at h1 h2
    exact h2 _ _ h1
   cases c with
   | seq a b =>
    refine Xaf ((Vk _ (Xa7▸h1)).mono fun e env s hq=>?_)
    cases e with
    | normal=>exact ih b Q env s (fun env σ h=>h2 env σ h) hq
    | _=>exact hq
   | _=>exact skip rfl
 exact key n c _ _ _ h2 h1
end
attribute [local irreducible] aws awp aw1 Og Om Oc Oa Ogd Ov Ot awd Ua awh Xb Ogh Ohd awl Ogl Ohl awv Ogv Ohv Wb Vb QFn Zc QRo QBe ACode AYield
abbrev PV:=Oyez.Place × AV
def pvC (x:PV):List AV:=[.int .i64 x.1.kind,.int .i64 x.1.number,x.2]
def Yih (l:List PV):List AV:=l.flatMap pvC
theorem Zet (k:IntKind) (n:Int):(AV.int k n).one=true:=rfl
end Ab

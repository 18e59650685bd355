/-
  Texts packed for a claim.
-/
import Derived.Test.YtcoikmapjepdjaaGreatDoorD00
import Derived.Test.YtcoikmapjepdjaaGreatDoorD11
import Derived.Test.YtcoikmapjepdjaaGreatDoorD16
import Derived.Test.YtcoikmapjepdjaaGreatDoorD17
import Derived.Test.YtcoikmapjepdjaaGreatDoorD20
import Derived.Test.YtcoikmapjepdjaaGreatDoorD14
import Derived.Test.YtcoikmapjepdjaaGreatDoorD21
import Derived.Test.YtcoikmapjepdjaaGreatDoorD24
import Derived.Test.YtcoikmapjepdjaaGreatDoorD26
import Derived.Test.YtcoikmapjepdjaaGreatDoorD10
set_option linter.all false
namespace Ab
open Go Go.RowKit Go.Proofs
attribute [local irreducible] aws awp aw1 Og Om Oc Oa Ogd Ov Ot awd Zb awh Xb Ogh Ohd awl Ogl Ohl awv Ogv Ohv Wb Vb QFn Ub QRo QBe ACode AYield
theorem Ucf (l m:List Oyez.Rec):Zo (l++m)=Zo l++Zo m:=by unfold Zo;rw [List.flatMap_append]
theorem Xfl (l:List Oyez.Rec) (i:Nat) (h:i≤l.length):(Zo l).take (i*3)=Zo (l.take i)∧(Zo l).drop (i*3)=Zo (l.drop i):=by
 have e:Zo l=Zo (l.take i)++Zo (l.drop i):=by rw [← Ucf,List.take_append_drop]
 have h1:(Zo (l.take i)).length=i*3:=by rw [Yd0,List.length_take];omega
 rw [e,← h1]
 exact ⟨List.take_left,List.drop_left⟩
def Wai (l:List Oyez.Rec) (t:Oyez.Rec) (i:Nat):List Oyez.Rec:=l.take i++t::l.drop i
theorem Vgy (l:List Oyez.Rec) (t:Oyez.Rec) (i:Nat) (h:i≤l.length):Va7 (Zo l) (Uv t) i=Zo (Wai l t i):=by
 obtain ⟨h1,h2⟩:=Xfl l i h
 unfold Va7 Wai
 rw [h1,h2,Ucf]
 show _=_++(Uv t++Zo (l.drop i))
 rw [List.append_assoc]
structure PlaceAt (l:List Oyez.Rec) (t:Oyez.Rec) (i:Nat):Prop where
 le:i≤l.length
 lo:∀ (m:Nat) (h:m<l.length),m<i→l[m].place.lt t.place=true
 hi:∀ (m:Nat) (h:m<l.length),i≤m→l[m].place.lt t.place=false
theorem PlaceAt.found {l:List Oyez.Rec} {t:Oyez.Rec} {i:Nat} (hs:Oyez.RSorted l) (h:PlaceAt l t i):t.place∈l.map Oyez.Rec.place↔∃ hi:i<l.length,l[i].place=t.place:=by
 constructor
 ·intro hm
  obtain ⟨x,hx,e⟩:=List.mem_map.1 hm
  obtain ⟨m,hml,rfl⟩:=List.mem_iff_getElem.1 hx
  have h1:i≤m:=by
   rcases Qzn m i with h2 | h2
   ·have:=h.lo m hml h2
    rw [e,Oyez.Place.lt_irrefl] at this
    cases this
   ·exact h2
  rcases Qzn i m with h2 | h2
  ·have h3:=h.hi i (by omega) (Nat.le_refl _)
   unfold Oyez.RSorted Oyez.Sorted at hs
   rw [List.pairwise_map] at hs
   have:=List.pairwise_iff_getElem.1 hs i m (by omega) hml h2
   rw [e,h3] at this
   cases this
  ·obtain rfl:m=i:=by omega
   exact ⟨hml,e⟩
 ·rintro ⟨hi,e⟩
  exact e▸List.mem_map_of_mem (List.getElem_mem hi)
theorem PlaceAt.sorted {l:List Oyez.Rec} {t:Oyez.Rec} {i:Nat} (hs:Oyez.RSorted l) (h:PlaceAt l t i) (hn:t.place∉l.map Oyez.Rec.place):Oyez.RSorted (Wai l t i):=by
 unfold Oyez.RSorted Oyez.Sorted Wai at *
 rw [List.pairwise_map] at hs ⊢
 have e:l=l.take i++l.drop i:=(List.take_append_drop i l).symm
 rw [e,List.pairwise_append] at hs
 obtain ⟨s1,s2,s3⟩:=hs
 have low:∀ x∈l.take i,x.place.lt t.place=true:=fun x hx=>by
  obtain ⟨m,hm,rfl⟩:=List.mem_iff_getElem.1 hx
  rw [List.length_take] at hm
  rw [List.getElem_take]
  exact h.lo m (by omega) (by omega)
 have high:∀ x∈l.drop i,t.place.lt x.place=true:=fun x hx=>by
  have hxl:x∈l:=List.mem_of_mem_drop hx
  obtain ⟨m,hm,rfl⟩:=List.mem_iff_getElem.1 hx
  rw [List.length_drop] at hm
  have h1:=h.hi (i+m) (by omega) (by omega)
  rw [List.getElem_drop] at hxl ⊢
  cases h2:t.place.lt l[i+m].place with
  | true=>rfl
  | false=>exact absurd (Oyez.Place.lt_tri h1 h2▸List.mem_map_of_mem hxl) hn
 refine List.pairwise_append.2 ⟨s1,List.pairwise_cons.2 ⟨high,s2⟩,fun x hx y hy=>?_⟩
 rcases List.mem_cons.1 hy with rfl | hy
 ·exact low x hx
 ·exact s3 x hx y hy
theorem InsQ.acc {τ g:Za} {l:List Oyez.Rec} {t:Oyez.Rec} {i j:Nat} {v:AV} {σ':Za} (h:InsQ (τ++g) (τ.length+j) l.length i (Zo l) (Uv t) v σ') (hi:i≤l.length) :
  ∃ g' j',σ'=τ++g'∧Acc τ g' 3 v ((Wai l t i).map Yg) (some j'):=by
 obtain ⟨r',rfl,h1,h2,h3,h4⟩:=h
 rw [List.length_append] at h2
 have ht:σ'.take τ.length=τ:=by
  apply List.ext_getElem?
  intro k
  rcases Qzn k τ.length with hk | hk
  ·rw [List.getElem?_take_of_lt hk,h4 k (by omega) (by rw [List.length_append];omega),Qzl hk]
  ·rw [List.getElem?_eq_none (by rw [List.length_take];omega),List.getElem?_eq_none hk]
 have hr':τ.length≤r':=by
  rcases h3 with h3 | h3
  ·omega
  ·rw [List.length_append] at h3;omega
 have hl:(Wai l t i).length=l.length+1:=by
  unfold Wai
  rw [List.length_append,List.length_cons,List.length_take,List.length_drop]
  omega
 refine ⟨σ'.drop τ.length,r' - τ.length,?_,⟨fun x hx=>?_,?_,?_⟩⟩
 ·conv=>lhs;rw [← List.take_append_drop τ.length σ',ht]
 ·obtain ⟨r,_,rfl⟩:=List.mem_map.1 hx
  exact ⟨rfl,by simp [AV.cells,AV.one]⟩
 ·rw [List.length_map,hl,show τ.length+(r' - τ.length)=r' by omega]
 ·rw [List.getElem?_drop,show τ.length+(r' - τ.length)=r' by omega,h1,Vgy l t i hi,Ve7]
end Ab
namespace Ab
open Go Go.RowKit Go.Proofs
section
variable [Mode]
theorem ACalls.fit {P:Program} {f:FuncId} {args:List AV} {σ:Za} {R:AV→Za→Prop}
  (h:ACalls P f args σ fun v σ'=>∃ (v':AV) (r:Nat) (cs tl:List AV),(v=v'∨∃ k2 r2 o2 l2 c2,v=.arc k2 r2 o2 l2 c2∧v'=.arr k2 r2 o2 l2)∧σ'[r]? = some (.cells (cs++tl))∧R v' (σ'.set r (.cells cs))):ACalls P f args σ R:=by
 have fin:∀ {C':Ctx} {v:AV} {d:Value} {σ':Za},Inv C' σ'→VR C' v d→(∃ (v':AV) (r:Nat) (cs tl:List AV),(v=v'∨∃ k2 r2 o2 l2 c2,v=.arc k2 r2 o2 l2 c2∧v'=.arr k2 r2 o2 l2)∧σ'[r]? = some (.cells (cs++tl))∧R v' (σ'.set r (.cells cs))) →
   ∃ (v':AV) (σ2:Za),Inv C' σ2∧VR C' v' d∧R v' σ2:=by
  rintro C' v d σ' hI' hv' ⟨v',r,ds,tl,hvv,hr',hR⟩
  have hb:∃ b,C'.blk[r]? = some b:=by
   have:=(Qzs.1 hr').1
   have hl:=hI'.len
   exact ⟨_,Qze (by omega)⟩
  obtain ⟨b,hb⟩:=hb
  refine ⟨v',_,hI'.retell hb hr' rfl fun c hc' hrel=>?_,?_,hR⟩
  ·obtain ⟨carr,e,lo,hi,rfl,h1,h2,h3⟩:=hrel.cells_inv
   refine .cells ds carr e lo hi (by rw [List.length_append] at h1;omega) h2 fun i x d hx hd=>h3 i x d ?_ hd
   rw [Qzl (Qzs.1 hx).1]
   exact hx
  ·rcases hvv with rfl | ⟨k2,r2,o2,l2,c2,rfl,rfl⟩
   ·exact hv'
   ·obtain ⟨b2,e2,n2,q1,q2,q3,q4,rfl⟩:=hv'.arc_inv
    exact .arr k2 r2 o2 l2 b2 c2 e2 n2 q1 q2 q3 q4
 rcases h with h | h
 ·refine .inl ⟨h.1,fun C cargs hI hv=>(h.2 C cargs hI hv).mono ?_⟩
  rintro en w' ⟨d,C',av,σ',rfl,rfl,hE,hI',hv',hR⟩
  obtain ⟨v',σ2,a1,a2,a3⟩:=fin hI' hv' hR
  exact ⟨d,C',v',σ2,rfl,rfl,hE,a1,a2,a3⟩
 ·refine .inr fun C cargs hI hv=>?_
  obtain ⟨d,C',av,σ',hrun,hE,hI',hv',hR⟩:=h C cargs hI hv
  obtain ⟨v',σ2,a1,a2,a3⟩:=fin hI' hv' hR
  exact ⟨d,C',v',σ2,hrun,hE,a1,a2,a3⟩
end
attribute [local irreducible] aws awp aw1 Og Om Oc Oa Ogd Ov Ot awd Zb awh Xb Ogh Ohd awl Ogl Ohl awv Ogv Ohv Wb Vb QFn Ub QRo QBe ACode AYield
abbrev PV:=Oyez.Place × AV
def pvC (x:PV):List AV:=[.int .i64 x.1.kind,.int .i64 x.1.number,x.2]
def Whr (l:List PV):List AV:=l.flatMap pvC
end Ab
namespace Ab
open Go Go.RowKit Go.Proofs
attribute [local irreducible] aws awp aw1 Og Om Oc Oa Ogd Ov Ot awd Zb awh Xb Ogh Ohd awl Ogl Ohl awv Ogv Ohv Wb Vb QFn Ub QRo QBe ACode AYield
end Ab
namespace Ab
open Go Go.RowKit Go.Proofs
theorem Ubf (n:Nat):∀ (f:List Oyez.Rec) (qs:List Nat),qs.length=(wne f).length→∀ (i:Nat) (r:Oyez.Rec),f[i]? = some r →
  ∃ w,(Zi n f qs)[i]? = some (.agg [.int .i64 r.kind,.int .i64 r.number,w])∧((r.words=[]∧w=.pl 1 [])∨∃ j q:Nat,qs[j]? = some q∧(wne f)[j]? = some r.words∧w=.arr 1 (n+q) 0 r.words.length)
 | [],qs,_,i,r,h=>by simp at h
 | x::t,qs,hl,i,r,h=>by
  rw [Zax] at hl ⊢
  by_cases hx:x.words=[]
  ·rw [if_pos hx] at hl ⊢
   rw [Zi,if_pos hx]
   cases i with
   | zero=>simp at h;subst h;exact ⟨_,rfl,.inl ⟨hx,rfl⟩⟩
   | succ i=>exact Ubf n t qs hl i r (by simpa using h)
  ·rw [if_neg hx] at hl ⊢
   cases qs with
   | nil=>simp at hl
   | cons q0 qs =>
    rw [Zi,if_neg hx]
    simp only [List.headD_cons,List.tail_cons]
    cases i with
    | zero=>simp at h;subst h;exact ⟨_,rfl,.inr ⟨0,q0,rfl,rfl,rfl⟩⟩
    | succ i =>
     obtain ⟨w,h1,h2⟩:=Ubf n t qs (by simpa using hl) i r (by simpa using h)
     refine ⟨w,by simpa using h1,?_⟩
     rcases h2 with h2 | ⟨j,q,g1,g2,g3⟩
     ·exact .inl h2
     ·exact .inr ⟨j+1,q,by simpa using g1,by simpa using g2,g3⟩
structure OwnIn (X:List (List UInt8)→List AV→Prop) (τ:Za) (lo:Nat) (f:List Oyez.Rec) (v:AV):Prop where
 row:(f=[]∧v=.nils)∨(f≠[]∧v=.arr 3 lo 0 f.length∧∃ cs,τ[lo]? = some (.cells cs)∧cs.length=f.length*3 ∧
  ∀ (i:Nat) (r:Oyez.Rec),f[i]? = some r→∃ w,List.take 3 (List.drop (i*3) cs)=[.int .i64 r.kind,.int .i64 r.number,w] ∧
   ((r.words=[]∧w=.pl 1 [])∨∃ (q:Nat) (xs:List AV),lo<q∧q<lo+1+(wne f).length∧w=.arr 1 q 0 r.words.length∧τ[q]? = some (.cells xs)∧X r.words xs))
theorem Vf0 (pre post:Za) (f:List Oyez.Rec):OwnIn Va1 (pre++(Xh pre.length 0 f++post)) pre.length f (Yn pre.length 0 f):=by
 refine ⟨?_⟩
 by_cases hf:f=[]
 ·exact .inl ⟨hf,by rw [Yn,if_pos hf]⟩
 ·refine .inr ⟨hf,by rw [Yn,if_neg hf,Nat.add_zero],_,by rw [Qzr (Nat.le_refl _),Nat.sub_self,Xh,if_neg hf,List.cons_append,List.getElem?_cons_zero],?_,fun i r hr=>?_⟩
  ·rw [Vao (k:=3) _ fun x hx=>(Ua6 _ _ _ x hx).1,Xas]
  ·have hi:=(Qzs.1 hr).1
   obtain ⟨w,h1,h2⟩:=Ubf pre.length f (List.range' (0+1) (wne f).length) (by simp) i r hr
   refine ⟨w,?_,?_⟩
   ·apply List.ext_getElem?
    intro j
    rcases Qzn j 3 with hj | hj
    ·rw [List.getElem?_take_of_lt hj,List.getElem?_drop,flat_get (k:=3) _ (fun x hx=>(Ua6 _ _ _ x hx).1) (by decide),show (i*3+j) / 3=i by omega,show (i*3+j) % 3=j by omega,h1]
     rfl
    ·rw [List.getElem?_eq_none (by simp;omega),List.getElem?_eq_none (by simpa using hj)]
   ·rcases h2 with h2 | ⟨j,q,g1,g2,g3⟩
    ·exact .inl h2
    ·have hj:j<(wne f).length:=(Qzs.1 g2).1
     rw [List.getElem?_range' hj] at g1
     simp at g1
     subst g1
     refine .inr ⟨pre.length+(1+j),strs r.words,by omega,by omega,g3,?_,rfl⟩
     rw [Qzr (by omega),show pre.length+(1+j) - pre.length=j+1 by omega,Xh,if_neg hf,List.cons_append,List.getElem?_cons_succ,Qzl (by simpa using hj),Qzp,g2]
     rfl
theorem OwnIn.many {τ:Za} {lo:Nat} {f:List Oyez.Rec} {v:AV} (h:OwnIn Va1 τ lo f v):OwnIn Ya0 τ lo f v:=by
 refine ⟨?_⟩
 rcases h.row with h | ⟨h1,h2,cs,h3,h4,h5⟩
 ·exact .inl h
 ·refine .inr ⟨h1,h2,cs,h3,h4,fun i r hr=>?_⟩
  obtain ⟨w,g1,g2⟩:=h5 i r hr
  refine ⟨w,g1,?_⟩
  rcases g2 with g2 | ⟨q,xs,a1,a2,a3,a4,a5⟩
  ·exact .inl g2
  ·exact .inr ⟨q,xs,a1,a2,a3,a4,by rw [Ya0,show xs=strs r.words from a5];simp [strs]⟩
theorem OwnIn.fz {τ:Za} {lo:Nat} {f:List Oyez.Rec} {v:AV} (h:OwnIn Va1 τ lo f v):Fz 0 τ v (We f):=by
 rcases h.row with ⟨rfl,rfl⟩ | ⟨h1,rfl,cs,h3,h4,h5⟩
 ·exact .nils_pl 3
 ·have hl:f.length=(f.map Yg).length:=by simp
  rw [hl]
  have hcell:∀ (i:Nat) (r:Oyez.Rec),f[i]? = some r→∃ w,(∀ j,j<3→cs[i*3+j]? = [AV.int .i64 r.kind,.int .i64 r.number,w][j]?)∧Fz 0 τ w (Uc r.words):=by
   intro i r hr
   obtain ⟨w,g1,g2⟩:=h5 i r hr
   refine ⟨w,fun j hj=>?_,?_⟩
   ·rw [← g1,List.getElem?_take_of_lt hj,List.getElem?_drop]
   ·rcases g2 with ⟨g2,rfl⟩ | ⟨q,xs,a1,a2,rfl,a4,a5⟩
    ·rw [g2];exact .pl0 1 1
    ·rw [show xs=strs r.words from a5] at a4
     exact Wdg _ a4
  refine Fz.arr 3 lo 0 cs (f.map Yg) (fun i j=>(cs[i*3+j]?).getD .any) (Nat.zero_le _) h3 (fun i x hx=>?_) (fun i x hx j y hy=>?_)
  ·rw [Qzp,Qzm] at hx
   obtain ⟨r,hr,rfl⟩:=hx
   obtain ⟨w,g1,g2⟩:=hcell i r hr
   refine ⟨rfl,fun j y hy=>?_⟩
   have hj:j<3:=(Qzs.1 hy).1
   refine ⟨?_,?_⟩
   ·match j,hj,hy with
    | 0,_,hy=>simp [AV.cells] at hy;subst hy;rfl
    | 1,_,hy=>simp [AV.cells] at hy;subst hy;rfl
    | 2,_,hy=>simp [AV.cells] at hy;subst hy;rfl
   ·have:=g1 j hj
    rw [Nat.zero_add,this]
    match j,hj with
    | 0,_=>rfl
    | 1,_=>rfl
    | 2,_=>rfl
  ·rw [Qzp,Qzm] at hx
   obtain ⟨r,hr,rfl⟩:=hx
   obtain ⟨w,g1,g2⟩:=hcell i r hr
   have hj:j<3:=(Qzs.1 hy).1
   rw [g1 j hj]
   match j,hj,hy with
   | 0,_,hy=>simp [AV.cells] at hy;subst hy;exact .int _ _
   | 1,_,hy=>simp [AV.cells] at hy;subst hy;exact .int _ _
   | 2,_,hy=>simp [AV.cells] at hy;subst hy;exact g2
structure Keep (lo hi:Nat) (τ τ':Za):Prop where
 out:∀ r,r<τ.length→¬ (lo<r∧r<hi)→τ'[r]? = τ[r]?
 cells:∀ (r:Nat) (cs:List AV),τ[r]? = some (.cells cs)→∃ cs',τ'[r]? = some (.cells cs')∧cs'.length=cs.length
 len:τ.length≤τ'.length
theorem Keep.refl (lo hi:Nat) (τ:Za):Keep lo hi τ τ:=⟨fun _ _ _=>rfl,fun r cs h=>⟨cs,h,rfl⟩,Nat.le_refl _⟩
theorem Keep.app {lo hi:Nat} {τ τ':Za} (h:Keep lo hi τ τ') (g:Za):Keep lo hi τ (τ'++g):=by
 have hl:=h.len
 refine ⟨fun r h1 h2=>?_,fun r cs h1=>?_,by rw [List.length_append];omega⟩
 ·rw [Qzl (by omega)];exact h.out r h1 h2
 ·obtain ⟨cs',h2,h3⟩:=h.cells r cs h1
  have:=(Qzs.1 h2).1
  exact ⟨cs',by rw [Qzl this];exact h2,h3⟩
theorem Keep.set {lo hi:Nat} {τ τ':Za} (h:Keep lo hi τ τ') {q:Nat} {cs cs':List AV} (h1:lo<q) (h2:q<hi) (hq:τ'[q]? = some (.cells cs)) (hl:cs'.length=cs.length):Keep lo hi τ (τ'.set q (.cells cs')):=by
 refine ⟨fun r g1 g2=>?_,fun r ds g1=>?_,by rw [List.length_set];exact h.len⟩
 ·rw [List.getElem?_set_ne (by omega)];exact h.out r g1 g2
 ·obtain ⟨ds',g2,g3⟩:=h.cells r ds g1
  by_cases e:q=r
  ·subst e
   rw [hq] at g2
   obtain rfl:cs=ds':=by simpa using g2
   exact ⟨cs',List.getElem?_set_self (Qzs.1 hq).1,by omega⟩
  ·exact ⟨ds',by rw [List.getElem?_set_ne e];exact g2,g3⟩
theorem Keep.own {lo hi:Nat} {τ τ':Za} (h:Keep lo hi τ τ') {f:List Oyez.Rec} {v:AV} (ho:OwnIn Ya0 τ lo f v):OwnIn Ya0 τ' lo f v:=by
 refine ⟨?_⟩
 rcases ho.row with h1 | ⟨h1,h2,cs,h3,h4,h5⟩
 ·exact .inl h1
 ·have hlo:=(Qzs.1 h3).1
  refine .inr ⟨h1,h2,cs,by rw [h.out lo hlo (by omega)];exact h3,h4,fun i r hr=>?_⟩
  obtain ⟨w,g1,g2⟩:=h5 i r hr
  refine ⟨w,g1,?_⟩
  rcases g2 with g2 | ⟨q,xs,a1,a2,a3,a4,a5⟩
  ·exact .inl g2
  ·obtain ⟨xs',b1,b2⟩:=h.cells q xs a4
   exact .inr ⟨q,xs',a1,a2,a3,b1,b2.trans a5⟩
theorem OwnIn.more {X:List (List UInt8)→List AV→Prop} {τ:Za} {lo:Nat} {f:List Oyez.Rec} {v:AV} (h:OwnIn X τ lo f v) (g:Za):OwnIn X (τ++g) lo f v:=by
 refine ⟨?_⟩
 rcases h.row with h1 | ⟨h1,h2,cs,h3,h4,h5⟩
 ·exact .inl h1
 ·refine .inr ⟨h1,h2,cs,Vr h3,h4,fun i r hr=>?_⟩
  obtain ⟨w,g1,g2⟩:=h5 i r hr
  refine ⟨w,g1,?_⟩
  rcases g2 with g2 | ⟨q,xs,a1,a2,a3,a4,a5⟩
  ·exact .inl g2
  ·exact .inr ⟨q,xs,a1,a2,a3,Vr a4,a5⟩
end Ab
namespace Oyez
end Oyez
namespace Ab
open Go Go.RowKit Go.Proofs
attribute [local irreducible] aws awp aw1 Og Om Oc Oa Ogd Ov Ot awd Zb awh Xb Ogh Ohd awl Ogl Ohl awv Ogv Ohv Wb Vb QFn Ub QRo QBe ACode AYield
end Ab
namespace Oyez
end Oyez
namespace Ab
open Go Go.RowKit Go.Proofs
attribute [local irreducible] aws awp aw1 Og Om Oc Oa Ogd Ov Ot awd Zb awh Xb Ogh Ohd awl Ogl Ohl awv Ogv Ohv Wb Vb QFn Ub QRo QBe ACode AYield
def Yae (l:List Oyez.Place):AV:=.pl 2 (l.map Ve)
attribute [simp] Yae
def Yhq (l:List Oyez.Place) (p:Oyez.Place):Int:=if p∈l then (l.idxOf p:Nat) else -1
theorem Zfm (n:Nat) (S:Za) (l:List Oyez.Place):∀ x∈l.map Ve,∀ y∈x.cells,Fz n S y y:=fun x hx y hy=>by
 obtain ⟨r,_,rfl⟩:=List.mem_map.1 hx
 simp [AV.cells] at hy
 rcases hy with rfl | rfl
 ·exact .int _ _
 ·exact .int _ _
end Ab
namespace Ab
open Go Go.RowKit Go.Proofs
variable [Mode]
end Ab
namespace Ab
open Go Go.RowKit Go.Proofs
attribute [local irreducible] aws awp aw1 Og Om Oc Oa Ogd Ov Ot awd Zb awh Xb Ogh Ohd awl Ogl Ohl awv Ogv Ohv Wb Vb QFn Ub QRo QBe ACode AYield
theorem Vhj {n:Nat} {τ:Za} {q:Nat} (ws:List (List UInt8)) (hn:n≤q) (h:τ[q]? = some (.cells (strs ws))):Fz n τ (.arr 1 q 0 ws.length) (Uc ws):=by
 have hl:ws.length=(strs ws).length:=by simp [strs]
 rw [hl]
 refine Fz.arr 1 q 0 (strs ws) (strs ws) (fun i _=>(strs ws).getD i .any) hn h (fun i x hx=>?_) (fun i x hx j y hy=>?_)
 ·have hx':=hx
  simp only [strs,Qzp,Qzm] at hx
  obtain ⟨s,hs,rfl⟩:=hx
  refine ⟨rfl,fun j y hy=>?_⟩
  match j,hy with
  | 0,hy =>
   simp [AV.cells] at hy;subst hy
   refine ⟨rfl,?_⟩
   rw [Nat.zero_add,Nat.mul_one,Nat.add_zero,List.getD_eq_getElem?_getD,hx']
   rfl
  | j+1,hy=>simp [AV.cells] at hy
 ·have hx':=hx
  simp only [strs,Qzp,Qzm] at hx
  obtain ⟨s,hs,rfl⟩:=hx
  match j,hy with
  | 0,hy =>
   simp [AV.cells] at hy;subst hy
   rw [List.getD_eq_getElem?_getD,hx']
   exact .str _
  | j+1,hy=>simp [AV.cells] at hy
theorem OwnIn.fzN {n:Nat} {τ:Za} {lo:Nat} {f:List Oyez.Rec} {v:AV} (hn:n≤lo) (h:OwnIn Va1 τ lo f v):Fz n τ v (We f):=by
 rcases h.row with ⟨rfl,rfl⟩ | ⟨h1,rfl,cs,h3,h4,h5⟩
 ·exact .nils_pl 3
 ·have hl:f.length=(f.map Yg).length:=by simp
  rw [hl]
  have hcell:∀ (i:Nat) (r:Oyez.Rec),f[i]? = some r→∃ w,(∀ j,j<3→cs[i*3+j]? = [AV.int .i64 r.kind,.int .i64 r.number,w][j]?)∧Fz n τ w (Uc r.words):=by
   intro i r hr
   obtain ⟨w,g1,g2⟩:=h5 i r hr
   refine ⟨w,fun j hj=>?_,?_⟩
   ·rw [← g1,List.getElem?_take_of_lt hj,List.getElem?_drop]
   ·rcases g2 with ⟨g2,rfl⟩ | ⟨q,xs,a1,a2,rfl,a4,a5⟩
    ·rw [g2];exact .pl0 1 1
    ·rw [show xs=strs r.words from a5] at a4
     exact Vhj _ (by omega) a4
  refine Fz.arr 3 lo 0 cs (f.map Yg) (fun i j=>(cs[i*3+j]?).getD .any) hn h3 (fun i x hx=>?_) (fun i x hx j y hy=>?_)
  ·rw [Qzp,Qzm] at hx
   obtain ⟨r,hr,rfl⟩:=hx
   obtain ⟨w,g1,g2⟩:=hcell i r hr
   refine ⟨rfl,fun j y hy=>?_⟩
   have hj:j<3:=(Qzs.1 hy).1
   refine ⟨?_,?_⟩
   ·match j,hj,hy with
    | 0,_,hy=>simp [AV.cells] at hy;subst hy;rfl
    | 1,_,hy=>simp [AV.cells] at hy;subst hy;rfl
    | 2,_,hy=>simp [AV.cells] at hy;subst hy;rfl
   ·have:=g1 j hj
    rw [Nat.zero_add,this]
    match j,hj with
    | 0,_=>rfl
    | 1,_=>rfl
    | 2,_=>rfl
  ·rw [Qzp,Qzm] at hx
   obtain ⟨r,hr,rfl⟩:=hx
   obtain ⟨w,g1,g2⟩:=hcell i r hr
   have hj:j<3:=(Qzs.1 hy).1
   rw [g1 j hj]
   match j,hj,hy with
   | 0,_,hy=>simp [AV.cells] at hy;subst hy;exact .int _ _
   | 1,_,hy=>simp [AV.cells] at hy;subst hy;exact .int _ _
   | 2,_,hy=>simp [AV.cells] at hy;subst hy;exact g2
theorem Ved (σ mid:Za) (l:List Oyez.Place):Fz σ.length (σ++(mid++Xm l)) (Vp σ.length mid.length l) (Yae l):=by
 unfold Vp Xm Yae
 by_cases h:l=[]
 ·rw [if_pos h,h];exact .nils_pl 2
 ·rw [if_neg h,if_neg h]
  have:=Acc.fz (σ:=σ) (g:=mid++[.cells (Ug l)]) (k:=2) (v:=.arr 2 (σ.length+mid.length) 0 l.length) (l:=l.map Ve) (o:=some mid.length) ⟨fun x hx=>by
   obtain ⟨p,_,rfl⟩:=List.mem_map.1 hx
   exact ⟨rfl,by simp [AV.cells,AV.one]⟩,by simp,by rw [Ubi,Qzr (Nat.le_refl _),Nat.sub_self];rfl⟩ (Zfm _ _ _)
  exact this
theorem Ydr {n:Nat} {σ:Za} {a b c a' b' c':AV} (h1:Fz n σ a a') (h2:Fz n σ b b') (h3:Fz n σ c c'):Fz n σ (.tup [a,b,c]) (.tup [a',b',c']):=by simp [h1,h2,h3]
theorem Vdp (a b c:List Oyez.Rec) (ha:Few a) (hb:Few b) (hc:Few c) (hl:a.length≤2^38∧b.length≤2^38∧c.length≤2^38) :
  APure Tryz.prog 59 [We a,We b,We c] (.tup [We (Xo a b c).1,Yae (Xo a b c).2.1,.int .i64 (Xo a b c).2.2]):=by
 refine APure.of fun σ=>?_
 refine (Yed a b c ha hb hc hl σ).mono ?_
 rintro v s ⟨rfl,rfl⟩
 refine ⟨_,rfl,Ydr ?_ (Ved _ _ _) (.int _ _)⟩
 have:=(Vf0 σ (Xm (Xo a b c).2.1) (Xo a b c).1).fzN (Nat.le_refl _)
 simpa using this
end Ab

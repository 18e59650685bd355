/-
  Texts packed for a claim.
-/
import Derived.Test.YtdifgaapdnbliaaGreatDoorS00
import Derived.Test.YtdifgaapdnbliaaGreatDoorCards
import Derived.Test.YtdifgaapdnbliaaGreatDoorTie
import Derived.ProofKit
import Derived.OpenShut
import Derived.Lay
import Derived.LaidLaws
import Derived.SevenTiedAt
import Derived.Stop.Joined
import Derived.Deep.DeepHandedRow
import Derived.Lib.LaidTab
import Derived.ChangeSlices
import Derived.Carry
import Derived.Test.YtdifgaapdnbliaaGreatDoorS06
import Derived.Test.YtdifgaapdnbliaaGreatDoorS08
import Derived.Test.YtdifgaapdnbliaaGreatDoorS11
import Derived.Test.YtdifgaapdnbliaaGreatDoorS12
import Derived.Test.YtdifgaapdnbliaaGreatDoorS16
import Derived.Test.YtdifgaapdnbliaaGreatDoorS14
set_option linter.all false
namespace Oyez
def Ucu:List S→S
 | []=>[]
 | w::t=>w++t.flatMap (fun x=>32::x)
theorem wordsErr_zero {k n:Int} {ws:List S} (h:wordsErr k n ws=0):ws.length≤6∧ws.all word=true∧(line k n ws).length≤64:=by
 unfold wordsErr at h
 split at h
 ·cases h
 ·split at h
  ·cases h
  ·split at h
   ·cases h
   ·rename_i h1 h2 h3
    exact ⟨by omega,by simpa using h2,by omega⟩
theorem placeErr_rng {k n:Int} (h:placeErr k n=0):(0≤k∧k≤4)∧0≤n∧n≤999:=by
 unfold placeErr at h
 split at h
 ·cases h
 ·split at h
  ·cases h
  ·omega
theorem recErr_iff (r:Rec):recErr r=0↔placeErr r.kind r.number=0∧wordsErr r.kind r.number r.words=0:=by
 refine ⟨recErr_place,fun ⟨h1,h2⟩=>?_⟩
 unfold recErr oneErr
 rw [if_neg (by simpa using h1)]
 exact h2
def cat (l:List (S × Bool)):S:=l.flatMap fun x=>x.1++if x.2 then [10] else []
def okL:List (S × Bool)→Prop
 | []=>True
 | (w,e)::t=>(10:UInt8)∉w∧(e=false→w≠[]∧t=[])∧okL t
end Oyez
namespace Oyez
def sp (c:UInt8) (sv:Bool):S→List S
 | []=>[[]]
 | b::t=>if b=c then (if sv then [b] else [])::sp c sv t else
  match sp c sv t with
  | []=>[[b]]
  | w::r=>(b::w)::r
def piece (x:S × Bool):S:=x.1++if x.2 then [10] else []
end Oyez
namespace Ab
open Go Go.RowKit
variable [Mode]
variable {P:Program}
theorem APure.lend {f:FuncId} {args args':List AV} {v:AV} (h:APure P f args v) {σ:Za} (hl:args'.length=args.length)
  (hz:∀ (i:Nat) (x y:AV),args'[i]? = some x→args[i]? = some y→Fz 0 σ x y) (hp:∀ (C C':Ctx) (c:Value),VR C v c→VR C' v c):ACalls P f args' σ fun v' σ'=>v'=v∧σ'=σ:=by
 have lent:∀ {C:Ctx} {cargs:List Value},Inv C σ→VRs C args' cargs→VRs (C.frz 0 σ) args cargs:=by
  intro C cargs hI hv
  refine ⟨hl▸hv.len,fun i y c hy hc=>?_⟩
  have hi:=(Qzs.1 hy).1
  have hx:args'[i]? = some (args'[i]'(by omega)):=Qze (by omega)
  exact (hv.at_ i _ c hx hc).frz hI (hz i _ y hx hy)
 rcases h [] with h | h
 ·refine .inl ⟨h.1,fun C cargs hI hv=>(h.2 (C.frz 0 σ) cargs hI.base0 (lent hI hv)).mono ?_⟩
  rintro e w' ⟨c,C',av,s,rfl,rfl,hE,hI',hv',rfl,rfl⟩
  obtain ⟨h1,h2⟩:=hI.back0 hE hI'
  exact ⟨c,C.at_ C'.w,_,σ,rfl,rfl,h1,h2,hp _ _ _ hv',rfl,rfl⟩
 ·refine .inr fun C cargs hI hv=>?_
  obtain ⟨c,C',av,s,hr,hE,hI',hv',rfl,rfl⟩:=h (C.frz 0 σ) cargs hI.base0 (lent hI hv)
  obtain ⟨h1,h2⟩:=hI.back0 hE hI'
  exact ⟨c,C.at_ C'.w,_,σ,hr,h1,h2,hp _ _ _ hv',rfl,rfl⟩
theorem ACalls.pl0 {f:FuncId} {k:Nat} {σ:Za} {R:AV→Za→Prop} (hen:Enters P f) (h1:ACalls P f [.nils] σ R) (h2:ACalls P f [.nn] σ R):ACalls P f [.pl k []] σ R:=by
 have ent:∀ {a:AV},ACalls P f [a] σ R→∀ C:Ctx,Inv C σ→(∃ c,VR C a c)→AEnter P f [a] σ R:=by
  intro a h C hI ⟨c,hc⟩
  rcases h with h | h
  ·exact h
  ·obtain ⟨v,C',av,σ',hr,_⟩:=h C [c] hI ⟨rfl,fun i x c' hx hc'=>by
    match i,hx,hc' with
    | 0,hx,hc'=>simp at hx hc';subst hx;subst hc';exact hc
    | i+1,hx,_=>simp at hx⟩
   rw [hen] at hr
   cases hr
 refine .inl ⟨hen,fun C cargs hI hv=>?_⟩
 obtain ⟨x,r,rfl,hx,hr⟩:=hv.inv
 obtain rfl:=hr.of_nil
 obtain ⟨A,cap,rfl,_,_⟩:=hx.pl_inv
 have hcap:=hx.pl_cap
 have one:∀ (a:AV) (c:Value),VR C a c→VRs C [a] [c]:=fun a c h=>⟨rfl,fun i x c' hx hc'=>by
  match i,hx,hc' with
  | 0,hx,hc'=>simp at hx hc';subst hx;subst hc';exact h
  | i+1,hx,_=>simp at hx⟩
 cases A with
 | none =>
  obtain rfl:=hcap rfl
  exact (ent h1 C hI ⟨_,.nils⟩).2 C _ hI (one _ _ .nils)
 | some a=>exact (ent h2 C hI ⟨_,.nn a cap⟩).2 C _ hI (one _ _ (.nn a cap))
end Ab
namespace Ab
open Go Go.RowKit
variable [Mode]
variable {P:Program}
def cold (n:Nat) (σ:Za):Za:=σ.take n++List.replicate (σ.length - n) .dead
theorem Ub4 {n:Nat} {σ:Za}:(cold n σ).length=σ.length:=by
 unfold cold;simp;omega
theorem Yc1 {n r:Nat} {σ:Za} (h:r<n):(cold n σ)[r]? = σ[r]?:=by
 unfold cold
 rcases Qzn r σ.length with h1 | h1
 ·rw [Qzl (by simp;omega),List.getElem?_take_of_lt h]
 ·rw [List.getElem?_eq_none (by simp;omega),List.getElem?_eq_none h1]
theorem Zbo {n r:Nat} {σ:Za} {o:AObj} (h:(cold n σ)[r]? = some o) (hl:o.live=true):r<n∧σ[r]? = some o:=by
 rcases Qzn r n with h1 | h1
 ·exact ⟨h1,by rw [← Yc1 h1];exact h⟩
 ·exfalso
  have h2:=(Qzs.1 h).1
  rw [Ub4] at h2
  unfold cold at h
  rw [Qzr (by simp;omega),List.getElem?_replicate] at h
  split at h
  ·cases h;cases hl
  ·cases h
theorem Ubl {σ g:Za}:cold σ.length (σ++g)=σ++List.replicate g.length .dead:=by
 unfold cold;simp
def Ctx.ice (C:Ctx) (n:Nat) (σ:Za):Ctx :=
 { C with pers:=fun b=>C.pers b∨∃ (r:Nat) (o:AObj),n≤r∧C.blk[r]? = some b∧σ[r]? = some o∧o.live=true }
theorem Ext.ice {C:Ctx} (n:Nat) (σ:Za):Ext C (C.ice n σ):=⟨rfl,⟨[],by simp [Ctx.ice]⟩,fun _ h=>.inl h,fun _ _=>rfl,fun _ _ h=>h,Nat.le_refl _,fun _=>Nat.le_refl _⟩
theorem Ext.frz_ice {C:Ctx} (n:Nat) (σ:Za):Ext (C.frz n σ) (C.ice n σ) :=
 ⟨rfl,⟨C.blk.drop n,by simp [Ctx.ice,Ctx.frz]⟩,fun _ h=>h,fun _ _=>rfl,fun _ _ h=>h,Nat.le_refl _,fun _=>Nat.le_refl _⟩
theorem Inv.ice {C:Ctx} {σ:Za} (hI:Inv C σ) (n:Nat):Inv (C.ice n σ) (cold n σ):=by
 refine ⟨by rw [Ub4];exact hI.len,hI.glob,hI.base,fun b hb=>.inl (hI.basep b hb),fun b hb=>?_,fun r b o hr ho hl=>?_,fun r1 r2 b o1 o2 h1 h2 ho1 ho2 hl1 hl2=>?_⟩
 ·rcases hb with hb | ⟨r,o,_,h1,h2,h3⟩
  ·exact hI.plt b hb
  ·obtain ⟨_,c,hc,_⟩:=hI.live r b o h1 h2 h3
   exact (Array.getElem?_eq_some_iff.1 hc).1
 ·obtain ⟨h1,h2⟩:=Zbo ho hl
  obtain ⟨hnp,c,hc,hR⟩:=hI.live r b o hr h2 hl
  refine ⟨?_,c,hc,hR.ext (Ext.ice n σ)⟩
  rintro (hp | ⟨r',o',g1,g2,g3,g4⟩)
  ·exact hnp hp
  ·have:=hI.inj r r' b o o' hr g2 h2 g3 hl g4
   omega
 ·exact hI.inj r1 r2 b o1 o2 h1 h2 (Zbo ho1 hl1).2 (Zbo ho2 hl2).2 hl1 hl2
theorem ACalls.freeze {f:FuncId} {args args':List AV} {σ:Za} {R:AV→Za→Prop} (n:Nat) (h:ACalls P f args' (cold n σ) R) (hl:args'.length=args.length)
  (hz:∀ (i:Nat) (x y:AV),args[i]? = some x→args'[i]? = some y→Fz n σ x y):ACalls P f args σ R:=by
 have lent:∀ {C:Ctx} {cargs:List Value},Inv C σ→VRs C args cargs→VRs (C.ice n σ) args' cargs:=by
  intro C cargs hI hv
  refine ⟨hl▸hv.len,fun i y c hy hc=>?_⟩
  have hi:=(Qzs.1 hy).1
  have hx:args[i]? = some (args[i]'(by omega)):=Qze (by omega)
  exact ((hv.at_ i _ c hx hc).frz hI (hz i _ y hx hy)).ext (Ext.frz_ice n σ)
 rcases h with h | h
 ·refine .inl ⟨h.1,fun C cargs hI hv=>(h.2 (C.ice n σ) cargs (hI.ice n) (lent hI hv)).mono ?_⟩
  rintro e w' ⟨v,C',av,s,rfl,rfl,hE,hI',hv',hR⟩
  exact ⟨v,C',av,s,rfl,rfl,(Ext.ice n σ).trans hE,hI',hv',hR⟩
 ·refine .inr fun C cargs hI hv=>?_
  obtain ⟨v,C',av,s,hr,hE,hI',hv',hR⟩:=h (C.ice n σ) cargs (hI.ice n) (lent hI hv)
  exact ⟨v,C',av,s,hr,(Ext.ice n σ).trans hE,hI',hv',hR⟩
theorem Fz.tup2 {n:Nat} {σ:Za} {a b a' b':AV} (h1:Fz n σ a a') (h2:Fz n σ b b'):Fz n σ (.tup [a,b]) (.tup [a',b']) :=
 .tup _ _ rfl fun i x y hx hy=>by
  match i with
  | 0=>simp at hx hy;subst hx;subst hy;exact h1
  | 1=>simp at hx hy;subst hx;subst hy;exact h2
  | i+2=>simp at hx
theorem Fz.agg2 {n:Nat} {σ:Za} {a b a' b':AV} (h1:Fz n σ a a') (h2:Fz n σ b b'):Fz n σ (.agg [a,b]) (.agg [a',b']) :=
 .agg _ _ rfl fun i x y hx hy=>by
  match i with
  | 0=>simp at hx hy;subst hx;subst hy;exact h1
  | 1=>simp at hx hy;subst hx;subst hy;exact h2
  | i+2=>simp at hx
theorem Acc.shift {σ s g:Za} {k:Nat} {v:AV} {l:List AV} {o:Option Nat} (h:Acc (σ++s) g k v l o):Acc σ (s++g) k v l (o.map (s.length+·)):=⟨h.len,by
 have:=h.val
 cases o with
 | none=>exact this
 | some j =>
  obtain ⟨h1,h2⟩:=this
  refine ⟨by rw [h1,List.length_append,Nat.add_assoc],?_⟩
  show (s++g)[s.length+j]? = _
  rw [Qzr (by omega),show s.length+j - s.length=j by omega]
  exact h2⟩
end Ab
namespace Oyez
theorem drop_cons (x:Rec) (t:List Rec) (p:Place):drop (x::t) p=if x.place=p then drop t p else x::drop t p:=by
 unfold drop
 by_cases h:x.place=p<;>simp [h]
def putR (r:Rec):Bool→List Rec→List Rec
 | done,[]=>if done then [] else [r]
 | done,x::t=>(if !done&&!(x.place.lt r.place) then [r] else [])++((if x.place=r.place then [] else [x])++putR r (done||!(x.place.lt r.place)) t)
theorem Xde (r:Rec):∀ f:List Rec,putR r true f=drop f r.place:=by
 intro f
 induction f with
 | nil=>rfl
 | cons x t ih =>
  rw [putR,drop_cons,Bool.true_or,ih]
  by_cases h:x.place=r.place<;>simp [h]
theorem Yd8 {r:Rec} {l:List Rec} (h:∀ x∈l,r.place.lt x.place=true):Ym r l=r::l:=by
 cases l with
 | nil=>rfl
 | cons x t=>rw [Ym,if_pos (h x (by simp))]
theorem putR_put (r:Rec):∀ f:List Rec,RSorted f→putR r false f=put f r:=by
 intro f
 unfold put
 induction f with
 | nil=>intro _;rfl
 | cons x t ih =>
  intro hs
  have hs':RSorted t∧∀ y∈t,x.place.lt y.place=true:=by
   unfold RSorted Sorted at hs
   rw [List.map_cons,List.pairwise_cons] at hs
   exact ⟨hs.2,fun y hy=>hs.1 _ (List.mem_map_of_mem hy)⟩
  rw [putR,drop_cons]
  cases hlt:x.place.lt r.place with
  | true =>
   have hne:¬ x.place=r.place:=fun e=>by rw [e,Place.lt_irrefl] at hlt;cases hlt
   rw [if_neg hne,if_neg hne,Ym,Place.lt_asymm hlt,← ih hs'.1]
   simp
  | false =>
   simp only [Bool.not_false,Bool.and_self,if_true,Bool.false_or,Xde]
   by_cases he:x.place=r.place
   ·rw [if_pos he,if_pos he,Yd8]
    ·rfl
    ·intro y hy
     unfold drop at hy
     rw [← he]
     exact hs'.2 y (List.mem_filter.1 hy).1
   ·rw [if_neg he,if_neg he,Ym]
    have h2:r.place.lt x.place=true:=by
     cases h3:r.place.lt x.place with
     | true=>rfl
     | false=>exact absurd (Place.lt_tri hlt h3) he
    rw [if_pos h2]
    rfl
end Oyez
namespace Ab
open Go Go.RowKit Go.Proofs
attribute [local irreducible] aws awp aw1 Og Om Oc Oa Ogd Ov Ot awd Ub Zc Wc QFn Zd ACode ACalls AYield
theorem Ya0 (n:Nat) (σ:Za) (f:List Oyez.Rec):∀ x∈f.map Yd,∀ y∈x.cells,Fz n σ y y:=fun x hx y hy=>by
 obtain ⟨r,_,rfl⟩:=List.mem_map.1 hx
 simp [AV.cells] at hy
 rcases hy with rfl | rfl | rfl
 ·exact .int _ _
 ·exact .int _ _
 ·exact (Xr _ _ _).2 trivial
def Xb (o:Option (List (List UInt8))):List (List UInt8):=o.getD []
set_option maxHeartbeats 1000000 in
theorem Yad (f:List Oyez.Rec) (k n:Int) (hf:f.length≤2^50):APure Tryz.prog 59 [Xa f,.int .i64 k,.int .i64 n] (.tup [Zb (Xb (Oyez.getIn f ⟨k,n⟩)),.bool (Oyez.getIn f ⟨k,n⟩).isSome]):=by
 refine APure.of fun σ=>?_
 generalize hX:Oyez.getIn f ⟨k,n⟩=X
 refine Ua Tryz.func59 rfl (Wa Tryz.func59 (by decide) rfl) ?_
 simp [Tryz.ntmps59]
 refine Yc (fun env σ'=>∃ (u:List AV) (i:Nat),env={ t:=u }∧u.length=36∧tg u 0=Xa f∧tg u 1=.int .i64 k∧tg u 2=.int .i64 n∧tg u 8=.int .i64 i∧σ'=σ∧i≤f.length∧Oyez.getIn (f.drop i) ⟨k,n⟩=X)
  (fun env _=>match tg env.t 8 with | .int _ i=>f.length - i.toNat | _=>0) ⟨_,0,rfl,by simp,by simp,by simp,by simp,by simp,rfl,by omega,by simp [hX]⟩ ?_
 rintro env σ' ⟨u,i,rfl,hl,g0,g1,g2,g8,rfl,hi,hd⟩
 rcases Qzn i f.length with hlt | hge
 ·have hlt':(i:Int)<(f.length:Int):=by omega
  have hx:=w64 (n:=(i:Int)+1) (by omega) (by omega)
  rw [List.drop_eq_getElem_cons hlt,Oyez.getIn_cons] at hd
  by_cases hk:f[i].kind=k
  ·by_cases hn:f[i].number=n
   ·have hp:f[i].place=⟨k,n⟩:=Oyez.Place.ext' hk hn
    rw [if_pos hp] at hd
    subst hd
    simp [hl,g0,g1,g2,g8,hlt',hlt,hk,hn,Xb]
   ·have hp:¬ f[i].place=⟨k,n⟩:=fun h=>hn (by rw [show f[i].number=f[i].place.number from rfl,h])
    rw [if_neg hp] at hd
    simp [hl,g0,g1,g2,g8,hlt',hlt,hk,hn,hx]
    exact ⟨⟨i+1,by simp,hlt,hd⟩,by omega⟩
  ·have hp:¬ f[i].place=⟨k,n⟩:=fun h=>hk (by rw [show f[i].kind=f[i].place.kind from rfl,h])
   rw [if_neg hp] at hd
   simp [hl,g0,g1,g2,g8,hlt',hlt,hk,hx]
   exact ⟨⟨i+1,by simp,hlt,hd⟩,by omega⟩
 ·have hge':¬ (i:Int)<(f.length:Int):=by omega
  rw [List.drop_eq_nil_of_le hge] at hd
  have hX2:X=none:=by rw [← hd];rfl
  subst hX2
  simp [hl,g0,g1,g2,g8,hge',Xb]
def Yag (f:List Oyez.Rec) (p:Oyez.Place):List Oyez.Rec × Int:=if (Oyez.getIn f p).isSome then (Oyez.drop f p,0) else ([],1)
set_option maxHeartbeats 2000000 in
theorem Zdh (f:List Oyez.Rec) (k n:Int) (hf:f.length≤2^40):APure Tryz.prog 60 [Xa f,.int .i64 k,.int .i64 n] (.tup [Xa (Yag f ⟨k,n⟩).1,.int .i64 (Yag f ⟨k,n⟩).2]):=by
 refine APure.of fun σ=>?_
 generalize hX:Yag f ⟨k,n⟩=X
 unfold Yag at hX
 refine Ua Tryz.func60 rfl (Wa Tryz.func60 (by decide) rfl) ?_
 simp [Tryz.ntmps60]
 refine (Yad f k n (by omega)).use ?_
 cases hg:(Oyez.getIn f ⟨k,n⟩).isSome with
 | false =>
  rw [hg] at hX
  subst hX
  simp
 | true =>
  rw [hg,if_pos rfl] at hX
  subst hX
  simp
  refine Yc (fun env σ'=>∃ (u:List AV) (i:Nat) (v:AV) (a:List Oyez.Rec) (g:Za) (o:Option Nat),env={ t:=u }∧u.length=51∧tg u 0=Xa f∧tg u 1=.int .i64 k∧tg u 2=.int .i64 n∧tg u 10=v∧tg u 11=.int .i64 i∧σ'=σ++g∧i≤f.length ∧
    a.length≤i∧a++Oyez.drop (f.drop i) ⟨k,n⟩=Oyez.drop f ⟨k,n⟩∧Acc σ g 3 v (a.map Yd) o)
   (fun env _=>match tg env.t 11 with | .int _ i=>f.length - i.toNat | _=>0) ⟨_,0,.nils,[],[],none,rfl,by simp,by simp,by simp,by simp,by simp,by simp,by simp,by omega,by simp,by simp,by simpa using Acc.nil _ _ _⟩ ?_
  rintro env σ' ⟨u,i,v,a,g,o,rfl,hl,g0,g1,g2,g10,g11,rfl,hi,ha,hd,hA⟩
  rcases Qzn i f.length with hlt | hge
  ·have hlt':(i:Int)<(f.length:Int):=by omega
   have hx:=w64 (n:=(i:Int)+1) (by omega) (by omega)
   rw [List.drop_eq_getElem_cons hlt,Oyez.drop_cons] at hd
   have hA1:=(hA.push (P:=Tryz.prog) (t:=27) (e:=96) (ag:=true) (x:=Yd f[i]) (by simp) (by simp) (by simp) (by omega) ⟨by simp [AV.cells],by simp [AV.cells,AV.one]⟩ (by simp;omega))
   obtain ⟨v',g',o',he,hA',_⟩:=hA1
   simp [-Ya,Uf] at he
   have hA2:Acc σ g' 3 v' ((a++[f[i]]).map Yd) o':=by simpa using hA'
   have keep:¬ f[i].place=⟨k,n⟩→(a++[f[i]])++Oyez.drop (f.drop (i+1)) ⟨k,n⟩=Oyez.drop f ⟨k,n⟩∧(a++[f[i]]).length≤i+1:=fun hp=>by
    rw [if_neg hp] at hd
    exact ⟨by rw [← hd];simp,by simp;omega⟩
   generalize a++[f[i]]=A at hA2 keep
   by_cases hk:f[i].kind=k
   ·by_cases hn:f[i].number=n
    ·have hp:f[i].place=⟨k,n⟩:=Oyez.Place.ext' hk hn
     rw [if_pos hp] at hd
     simp [-Ya,hl,g0,g1,g2,g10,g11,hlt',hlt,hk,hn,hx]
     exact ⟨⟨i+1,by simp,hlt,a,by omega,hd,o,hA⟩,by omega⟩
    ·have hp:¬ f[i].place=⟨k,n⟩:=fun h=>hn (by rw [show f[i].number=f[i].place.number from rfl,h])
     obtain ⟨k1,k2⟩:=keep hp
     rw [hk] at he
     simp [-Ya,hl,g0,g1,g2,g10,g11,hlt',hlt,hk,hn,hx,he]
     exact ⟨⟨i+1,by simp,hlt,A,k2,k1,o',hA2⟩,by omega⟩
   ·have hp:¬ f[i].place=⟨k,n⟩:=fun h=>hk (by rw [show f[i].kind=f[i].place.kind from rfl,h])
    obtain ⟨k1,k2⟩:=keep hp
    simp [-Ya,hl,g0,g1,g2,g10,g11,hlt',hlt,hk,hx,he]
    exact ⟨⟨i+1,by simp,hlt,A,k2,k1,o',hA2⟩,by omega⟩
  ·have hge':¬ (i:Int)<(f.length:Int):=by omega
   rw [List.drop_eq_nil_of_le hge] at hd
   have hd':a=Oyez.drop f ⟨k,n⟩:=by rw [← hd];simp [Oyez.drop]
   subst hd'
   have hz:=hA.fz (Ya0 _ _ _)
   simp [hl,g0,g1,g2,g10,g11,hge']
   exact hz
def Zau (f:List Oyez.Rec) (r:Oyez.Rec):List Oyez.Rec × Int:=if 40<(Oyez.putR r false f).length then ([],2) else (Oyez.putR r false f,0)
set_option maxHeartbeats 4000000 in
theorem Uch (f:List Oyez.Rec) (r:Oyez.Rec) (hf:f.length≤2^40):APure Tryz.prog 62 [Xa f,Yd r] (.tup [Xa (Zau f r).1,.int .i64 (Zau f r).2]):=by
 refine APure.of fun σ=>?_
 generalize hX:Zau f r=X
 unfold Zau at hX
 obtain ⟨τ,hτ⟩:∃ τ,σ++[AObj.cells (Uf r)]=τ:=⟨_,rfl⟩
 have hτ':σ++[AObj.cells [.int .i64 r.kind,.int .i64 r.number,.pl 1 (r.words.map AV.str)]]=τ:=hτ
 have hat:∀ g:Za,(τ++g)[σ.length]? = some (.cells [.int .i64 r.kind,.int .i64 r.number,.pl 1 (r.words.map AV.str)]):=fun g=>by rw [← hτ'];simp
 refine Ua Tryz.func62 rfl (Wa Tryz.func62 (by decide) rfl) ?_
 simp [Tryz.ntmps62,hτ']
 refine Yc (fun env σ'=>∃ (u:List AV) (i:Nat) (d:Bool) (v:AV) (a:List Oyez.Rec) (g:Za) (o:Option Nat),env={ t:=u }∧u.length=74∧tg u 0=Xa f∧tg u 3=.ptr σ.length 0∧tg u 6=v∧tg u 7=.bool d∧tg u 8=.int .i64 i∧σ'=τ++g∧i≤f.length ∧
   a.length≤2*i∧a++Oyez.putR r d (f.drop i)=Oyez.putR r false f∧Acc τ g 3 v (a.map Yd) o)
  (fun env _=>match tg env.t 8 with | .int _ i=>f.length - i.toNat | _=>0) ⟨_,0,false,.nils,[],[],none,rfl,by simp,by simp,by simp,by simp,by simp,by simp,by simp,by omega,by simp,by simp,by simpa using Acc.nil _ _ _⟩ ?_
 rintro env σ' ⟨u,i,d,v,a,g,o,rfl,hl,g0,g3,g6,g7,g8,rfl,hi,ha,hd,hA⟩
 rcases Qzn i f.length with hlt | hge
 ·have hlt':(i:Int)<(f.length:Int):=by omega
  have hx:=w64 (n:=(i:Int)+1) (by omega) (by omega)
  rw [List.drop_eq_getElem_cons hlt,Oyez.putR] at hd
  have hpe:∀ hk:f[i].kind=r.kind,∀ hn:f[i].number=r.number,f[i].place=r.place:=fun hk hn=>Oyez.Place.ext' hk hn
  have hpk:¬ f[i].kind=r.kind→¬ f[i].place=r.place:=fun h e=>h (by rw [show f[i].kind=f[i].place.kind from rfl,e];rfl)
  have hpn:¬ f[i].number=r.number→¬ f[i].place=r.place:=fun h e=>h (by rw [show f[i].number=f[i].place.number from rfl,e];rfl)
  have second:∀ (u:List AV) (d':Bool) (v':AV) (a':List Oyez.Rec) (g':Za) (o':Option Nat),u.length=74→tg u 0=Xa f→tg u 3=.ptr σ.length 0→tg u 6=v'→tg u 7=.bool d'→tg u 8=.int .i64 i→a'.length≤2*i+1→Acc τ g' 3 v' (a'.map Yd) o'→a'++((if f[i].place=r.place then [] else [f[i]])++Oyez.putR r d' (f.drop (i+1)))=Oyez.putR r false f→True:=fun _ _ _ _ _ _ _ _ _ _ _ _ _ _ _=>trivial
  clear second
  simp [-Ya,hl,g0,g3,g6,g7,g8,hlt',hat]
  refine Zg mixed (by kernel_rfl) ?_
  cases d with
  | false =>
   simp only [Bool.not_false,Bool.true_and,Bool.false_or] at hd
   simp [-Ya,hl,g0,g3,g6,g7,g8,hlt',hlt,hat]
   refine Wq (Uai _ _ _ _) ?_
   rw [show ({ kind:=f[i].kind,number:=f[i].number }:Oyez.Place)=f[i].place from rfl,show ({ kind:=r.kind,number:=r.number }:Oyez.Place)=r.place from rfl]
   cases hb:f[i].place.lt r.place with
   | true =>
    rw [hb] at hd
    simp only [Bool.not_true,Bool.false_eq_true,if_false,List.nil_append] at hd
    have hA1:=hA.push (P:=Tryz.prog) (t:=27) (e:=96) (ag:=true) (x:=Yd f[i]) (by simp) (by simp) (by simp) (by omega) ⟨by simp [AV.cells],by simp [AV.cells,AV.one]⟩ (by simp;omega)
    obtain ⟨v',g',o',he,hA',_⟩:=hA1
    simp [-Ya,Uf] at he
    have hA2:Acc τ g' 3 v' ((a++[f[i]]).map Yd) o':=by simpa using hA'
    have hne:¬ f[i].place=r.place:=fun e=>by rw [e,Oyez.Place.lt_irrefl] at hb;cases hb
    rw [if_neg hne,← List.append_assoc] at hd
    have hal:(a++[f[i]]).length≤2*(i+1):=by simp;omega
    generalize a++[f[i]]=A at hA2 hd hal
    simp [-Ya,hl,g0,g3,g6,g7,g8,hlt',hlt,hat]
    refine Zg mixed (by kernel_rfl) ?_
    by_cases hk:f[i].kind=r.kind
    ·have hn:¬ f[i].number=r.number:=fun hn=>hne (hpe hk hn)
     rw [hk] at he
     simp [-Ya,hl,g0,g3,g6,g7,g8,hlt',hlt,hat,hk,hn,he,hx]
     exact ⟨⟨i+1,by simp,hlt,A,hal,hd,o',hA2⟩,by omega⟩
    ·simp [-Ya,hl,g0,g3,g6,g7,g8,hlt',hlt,hat,hk,he,hx]
     exact ⟨⟨i+1,by simp,hlt,A,hal,hd,o',hA2⟩,by omega⟩
   | false =>
    rw [hb] at hd
    simp only [Bool.not_false,if_true] at hd
    have hB1:=hA.push (P:=Tryz.prog) (t:=27) (e:=96) (ag:=true) (x:=Yd r) (by simp) (by simp) (by simp) (by omega) ⟨by simp [AV.cells],by simp [AV.cells,AV.one]⟩ (by simp;omega)
    obtain ⟨w,k,q,hf1,hB,_⟩:=hB1
    simp [-Ya,Uf] at hf1
    have hB2:Acc τ k 3 w ((a++[r]).map Yd) q:=by simpa using hB
    rw [← List.append_assoc] at hd
    have hbl:(a++[r]).length≤2*i+1:=by simp;omega
    generalize a++[r]=a2 at hB2 hd hbl
    have hA1:=hB2.push (P:=Tryz.prog) (t:=27) (e:=96) (ag:=true) (x:=Yd f[i]) (by simp) (by simp) (by simp) (by omega) ⟨by simp [AV.cells],by simp [AV.cells,AV.one]⟩ (by simp;omega)
    obtain ⟨v',g',o',he,hA',_⟩:=hA1
    simp [-Ya,Uf] at he
    have hA2:Acc τ g' 3 v' ((a2++[f[i]]).map Yd) o':=by simpa using hA'
    have hal:(a2++[f[i]]).length≤2*(i+1):=by simp;omega
    simp [-Ya,hl,g0,g3,g6,g7,g8,hlt',hlt,hat,hf1]
    refine Zg mixed (by kernel_rfl) ?_
    by_cases hk:f[i].kind=r.kind
    ·by_cases hn:f[i].number=r.number
     ·rw [if_pos (hpe hk hn),List.nil_append] at hd
      simp [-Ya,hl,g0,g3,g6,g7,g8,hlt',hlt,hat,hk,hn,hx]
      exact ⟨⟨i+1,by simp,hlt,a2,by omega,hd,q,hB2⟩,by omega⟩
     ·rw [if_neg (hpn hn),← List.append_assoc] at hd
      generalize a2++[f[i]]=A at hA2 hd hal
      rw [hk] at he
      simp [-Ya,hl,g0,g3,g6,g7,g8,hlt',hlt,hat,hk,hn,he,hx]
      exact ⟨⟨i+1,by simp,hlt,A,hal,hd,o',hA2⟩,by omega⟩
    ·rw [if_neg (hpk hk),← List.append_assoc] at hd
     generalize a2++[f[i]]=A at hA2 hd hal
     simp [-Ya,hl,g0,g3,g6,g7,g8,hlt',hlt,hat,hk,he,hx]
     exact ⟨⟨i+1,by simp,hlt,A,hal,hd,o',hA2⟩,by omega⟩
  | true =>
   simp only [Bool.not_true,Bool.false_and,Bool.true_or,Bool.false_eq_true,if_false,List.nil_append] at hd
   have hA1:=hA.push (P:=Tryz.prog) (t:=27) (e:=96) (ag:=true) (x:=Yd f[i]) (by simp) (by simp) (by simp) (by omega) ⟨by simp [AV.cells],by simp [AV.cells,AV.one]⟩ (by simp;omega)
   obtain ⟨v',g',o',he,hA',_⟩:=hA1
   simp [-Ya,Uf] at he
   have hA2:Acc τ g' 3 v' ((a++[f[i]]).map Yd) o':=by simpa using hA'
   have hal:(a++[f[i]]).length≤2*(i+1):=by simp;omega
   simp [-Ya,hl,g0,g3,g6,g7,g8,hlt',hlt,hat]
   refine Zg mixed (by kernel_rfl) ?_
   by_cases hk:f[i].kind=r.kind
   ·by_cases hn:f[i].number=r.number
    ·rw [if_pos (hpe hk hn),List.nil_append] at hd
     simp [-Ya,hl,g0,g3,g6,g7,g8,hlt',hlt,hat,hk,hn,hx]
     exact ⟨⟨i+1,by simp,hlt,a,by omega,hd,o,hA⟩,by omega⟩
    ·rw [if_neg (hpn hn),← List.append_assoc] at hd
     generalize a++[f[i]]=A at hA2 hd hal
     rw [hk] at he
     simp [-Ya,hl,g0,g3,g6,g7,g8,hlt',hlt,hat,hk,hn,he,hx]
     exact ⟨⟨i+1,by simp,hlt,A,hal,hd,o',hA2⟩,by omega⟩
   ·rw [if_neg (hpk hk),← List.append_assoc] at hd
    generalize a++[f[i]]=A at hA2 hd hal
    simp [-Ya,hl,g0,g3,g6,g7,g8,hlt',hlt,hat,hk,he,hx]
    exact ⟨⟨i+1,by simp,hlt,A,hal,hd,o',hA2⟩,by omega⟩
 ·have hge':¬ (i:Int)<(f.length:Int):=by omega
  rw [List.drop_eq_nil_of_le hge,Oyez.putR] at hd
  have fin:∀ {v:AV} {a:List Oyez.Rec} {g:Za} {o:Option Nat},Acc τ g 3 v (a.map Yd) o→Fz σ.length (τ++g) v (Xa a):=by
   intro v a g o hA
   rw [← hτ] at hA ⊢
   have:=hA.shift.fz (Ya0 _ _ _)
   rw [List.append_assoc]
   exact this
  have hext:∀ g:Za,∃ x,τ++g=σ++x:=fun g=>⟨AObj.cells (Uf r)::g,by rw [← hτ];simp⟩
  have hal:a.length≤2^42:=by omega
  cases d with
  | false =>
   have hB1:=hA.push (P:=Tryz.prog) (t:=27) (e:=96) (ag:=true) (x:=Yd r) (by simp) (by simp) (by simp) (by omega) ⟨by simp [AV.cells],by simp [AV.cells,AV.one]⟩ (by simp;omega)
   obtain ⟨w,k,q,hf1,hB,_⟩:=hB1
   simp [-Ya,Uf] at hf1
   have hB2:Acc τ k 3 w ((a++[r]).map Yd) q:=by simpa using hB
   have hd2:a++[r]=Oyez.putR r false f:=hd
   rw [hd2] at hB2
   have hz:=fin hB2
   have hv:=hB2.val
   have hne:Oyez.putR r false f≠[]:=by rw [← hd2];simp
   generalize Oyez.putR r false f=P at *
   cases q with
   | none=>exact absurd (List.map_eq_nil_iff.1 hv.2) hne
   | some j =>
    obtain ⟨rfl,hj⟩:=hv
    by_cases h40:40<P.length
    ·have h40':(40:Int)<(P.length:Int):=by omega
     rw [if_pos h40] at hX
     subst hX
     simp [-Ya,hl,g0,g3,g6,g7,g8,hge',hat,hf1,h40,h40']
     exact hext _
    ·have h40':¬ (40:Int)<(P.length:Int):=by omega
     rw [if_neg h40] at hX
     subst hX
     simp [-Ya,hl,g0,g3,g6,g7,g8,hge',hat,hf1,h40,h40']
     exact ⟨hext _,by simpa using hz⟩
  | true =>
   have hd2:a=Oyez.putR r false f:=by rw [← hd];simp
   rw [hd2] at hA
   have hz:=fin hA
   have hv:=hA.val
   generalize Oyez.putR r false f=P at *
   cases o with
   | none =>
    obtain ⟨rfl,hn⟩:=hv
    obtain rfl:=List.map_eq_nil_iff.1 hn
    simp at hX
    subst hX
    simp [-Ya,hl,g0,g3,g6,g7,g8,hge',hat]
    exact hext _
   | some j =>
    obtain ⟨rfl,hj⟩:=hv
    by_cases h40:40<P.length
    ·have h40':(40:Int)<(P.length:Int):=by omega
     rw [if_pos h40] at hX
     subst hX
     simp [-Ya,hl,g0,g3,g6,g7,g8,hge',hat,h40,h40']
     exact hext _
    ·have h40':¬ (40:Int)<(P.length:Int):=by omega
     rw [if_neg h40] at hX
     subst hX
     simp [-Ya,hl,g0,g3,g6,g7,g8,hge',hat,h40,h40']
     exact ⟨hext _,by simpa using hz⟩
set_option maxHeartbeats 2000000 in
theorem Ydj (f:List Oyez.Rec) (hf:f.length≤40) (hr:∀ r∈f,Oyez.recErr r=0):APure Tryz.prog 58 [Xa f] (.str (Oyez.print f)):=by
 intro σ
 generalize hX:Oyez.print f=X
 refine Ua Tryz.func58 rfl (Wa Tryz.func58 (by decide) rfl) ?_
 simp [Tryz.ntmps58]
 refine Yc (fun env σ'=>∃ (u:List AV) (i:Nat) (a:List UInt8),env={ t:=u }∧u.length=31∧tg u 0=Xa f∧tg u 3=.str a∧tg u 4=.int .i64 i∧σ'=σ∧i≤f.length∧a.length≤65*i∧a++Oyez.print (f.drop i)=X)
  (fun env _=>match tg env.t 4 with | .int _ i=>f.length - i.toNat | _=>0) ⟨_,0,[],rfl,by simp,by simp,by simp,by simp,rfl,by omega,by simp,by simpa using hX⟩ ?_
 rintro env σ' ⟨u,i,a,rfl,hl,g0,g3,g4,rfl,hi,ha,hd⟩
 rcases Qzn i f.length with hlt | hge
 ·have hlt':(i:Int)<(f.length:Int):=by omega
  have hx:=w64 (n:=(i:Int)+1) (by omega) (by omega)
  have hmem:=List.getElem_mem hlt
  obtain ⟨hp,hw⟩:=(Oyez.recErr_iff _).1 (hr _ hmem)
  obtain ⟨⟨hk0,hk4⟩,hn0,hn9⟩:=Oyez.placeErr_rng hp
  obtain ⟨hw6,_,hl64⟩:=Oyez.wordsErr_zero hw
  have ht1:Yh f[i].words≤64:=by
   unfold Oyez.line at hl64
   rw [List.length_append,Va8] at hl64
   omega
  have hst:a.length+(Oyez.line f[i].kind f[i].number f[i].words).length≤9223372036854775807:=by omega
  have hst2:a.length+(Oyez.line f[i].kind f[i].number f[i].words).length+1≤9223372036854775807:=by omega
  have hnext:(a++Oyez.line f[i].kind f[i].number f[i].words++[10])++Oyez.print (f.drop (i+1))=X:=by
   rw [← hd,List.drop_eq_getElem_cons hlt]
   simp only [Oyez.print,List.flatMap_cons,List.append_assoc]
  have hnl:(a++Oyez.line f[i].kind f[i].number f[i].words++[10]).length≤65*(i+1):=by simp;omega
  simp [hl,g0,g3,g4,hlt']
  refine Zg mixed (by kernel_rfl) ?_
  simp [hl,g0,g3,g4,hlt',hlt]
  refine Wq (Xch f[i].kind f[i].number f[i].words hk0 hn0 (by omega) (by omega) (by omega)) ?_
  generalize Oyez.line f[i].kind f[i].number f[i].words=L at *
  simp [hl,g0,g3,g4,hlt',hlt,hst,hst2,hx]
  exact ⟨⟨i+1,by simp,hlt,by simpa using hnl,by simpa using hnext⟩,by omega⟩
 ·have hge':¬ (i:Int)<(f.length:Int):=by omega
  rw [List.drop_eq_nil_of_le hge] at hd
  have:a=X:=by rw [← hd];simp [Oyez.print]
  subst this
  simp [hl,g0,g3,g4,hge']
end Ab
namespace Ab
open Go Go.RowKit Go.Proofs
attribute [local irreducible] aws awp aw1 Og Om Oc Oa Ogd Ov Ot awd Ub awh Xc Ogh Ohd awl Ogl Ohl awv Ogv Ohv Zc Wc QFn Zd QRo QBe ACode AYield
def Xd1 (l:List UInt8):List AV:=l.map fun b=>AV.int .u8 b.toNat
def Vez (l:List UInt8) (a:Nat) (c:Int):AObj:=.cells [.pl 1 (Xd1 l),.int .i64 a,.int .u32 c]
end Ab
namespace Ab
open Go Go.RowKit Go.Proofs
attribute [local irreducible] aws awp aw1 Og Om Oc Oa Ogd Ov Ot awd Ub awh Xc Ogh Ohd awl Ogl Ohl awv Ogv Ohv Zc Wc QFn Zd QRo QBe ACode AYield
def Ve8 (l:List UInt8) (d:Nat) (σ:Za) (m:Int) (v:AV) (σ':Za):Prop:=∃ (n:Int) (a':Nat) (c':Int),v=.int .i64 n∧0≤n∧n≤m∧a'≤l.length∧σ'=σ.set d (Vez l a' c')
def Zdi:List (List UInt8):=[[116,105,100,101],[115,116,111,114,109],[113,117,97,121],[112,117,114,115,101,55],[98,101,108,108],[97],[48],[108,111,97,102,52]]
theorem Acc.set {σ g:Za} {k:Nat} {v:AV} {l:List AV} {o:Option Nat} (h:Acc σ g k v l o) (d:Nat) (X:AObj):Acc (σ.set d X) g k v l o:=⟨h.len,by
 have:=h.val
 cases o with
 | none=>exact this
 | some j=>rw [List.length_set];exact this⟩
theorem set_set {σ g:Za} {d:Nat} (hd:d<σ.length) (X Y:AObj):(σ.set d X++g).set d Y=σ.set d Y++g:=by
 rw [List.set_append_left _ _ (by simpa using hd),List.set_set]
end Ab
namespace Ab
open Go Go.RowKit Go.Proofs Go.ChangeShapes Go.WideShapes Go.ChangeAt
theorem Zbm {P:Program} {W:World} {ps:List MemPlace} {x:String × DataW Unit} {rest:List (String × DataW Unit)} (h:DataW.LaidVars P W (x::rest) ps) {g:Nat} {t:TypeId} (hg:P.globalNamed x.1=some g) (ht:(P.globals[g]?).map (·.type)=some t) :
  (∃ cs fuel p,W.var? P x.1=some cs∧DataW.trod (fun _=>()) P W 0 (fun _=>true) false fuel t cs.toList=some (x.2,p))∧∃ q,DataW.LaidVars P W rest q:=by
 obtain ⟨g',t',cs,fuel,p,q,hg',ht',hvar,hd,h2,_⟩:=h
 obtain rfl:=Option.some.inj (hg.symm.trans hg')
 obtain rfl:=Option.some.inj (ht.symm.trans ht')
 exact ⟨⟨cs,fuel,p,hvar,hd⟩,q,h2⟩
theorem Yby {P:Program} {W:World} {ps:List MemPlace} {x:String × DataW Unit} {rest:List (String × DataW Unit)} (h:DataW.LaidVars P W (x::rest) ps):∃ q,DataW.LaidVars P W rest q:=by
 obtain ⟨g',t',cs,fuel,p,q,hg',ht',hvar,hd,h2,_⟩:=h
 exact ⟨q,h2⟩
theorem Wcg {P:Program} {W:World} {t:TypeId} {ms:Array (String × TypeId)} {s nm:String} {d:DataW Unit} {fuel:Nat} {p:List MemPlace} {cs:Array Value} (hi:P.underlying t=some (.interface ms)) (hv:W.var? P s=some cs)
  (hd:DataW.trod (fun _=>()) P W 0 (fun _=>true) false fuel t cs.toList=some (.iface nm d,p)):∃ (tp:TypeId) (q:Value),W.var? P s=some #[.iface tp q]:=by
 obtain ⟨_,u,v,he,_⟩:=iface_of_trod hi hd
 refine ⟨u,v,?_⟩
 rw [hv,← Array.toList_inj.1 (show cs.toList=#[Value.iface u v].toList from he)]
theorem Yeq {W:World} {ps:List MemPlace} {x y:String × DataW Unit} {n1 n2:String} {d1 d2:DataW Unit} {rest:List (String × DataW Unit)}
  (h:DataW.LaidVars Tryz.prog W (x::y::("internal/strconv.uint64pow10",Lib.tabData .u64 Lib.pow10Tab)::("strconv.ErrRange",.iface n1 d1)::("strconv.ErrSyntax",.iface n2 d2)::rest) ps):GoodW W:=by
 obtain ⟨_,h⟩:=Yby h
 obtain ⟨_,h⟩:=Yby h
 obtain ⟨⟨cs,f,p,hv,hd⟩,_,h⟩:=Zbm (g:=5) (t:=308) h (by kernel_rfl) (by kernel_rfl)
 obtain ⟨⟨cs2,f2,p2,hv2,hd2⟩,_,h⟩:=Zbm (g:=4) (t:=181) h (by kernel_rfl) (by kernel_rfl)
 obtain ⟨⟨cs3,f3,p3,hv3,hd3⟩,_,h⟩:=Zbm (g:=3) (t:=181) h (by kernel_rfl) (by kernel_rfl)
 refine ⟨?_,Wcg (ms:=_) Tryz.underlying181 hv3 hd3,Wcg (ms:=_) Tryz.underlying181 hv2 hd2⟩
 unfold Lib.TabIs
 rw [hv,← Lib.cells_of_tab Tryz.underlying308 Tryz.underlying240 (by kernel_rfl) (by kernel_rfl) hd]
theorem APure.law {f:FuncId} {args:List AV} {b:Bool} (hen:Enters Tryz.prog f) (h:APure Tryz.prog f args (.bool b)) {W:World} (hW:GoodW W) {cargs:List Value} (hv:∀ C:Ctx,C.w=W→(∀ b,b<W.heap.size→C.pers b)→VRs C args cargs) :
  Calls Tryz.prog f cargs.toArray W fun e w'=>e=.returned (.bool b)∧Below W.heap.size W w':=by
 have hC:All ⟨W,[],fun b=>b<W.heap.size,W⟩:=⟨⟨rfl,hW,Below.refl _ _,fun b hb=>hb,fun b hb=>hb,fun r b o h=>by simp at h,fun r r' b o o' h=>by simp at h⟩,rfl,fun b hb=>hb⟩
 refine (h.callsC hen hC (hv _ rfl fun _ h=>h)).mono ?_
 rintro e w' ⟨⟨c,C',rfl,hc⟩,hb⟩
 rw [hc.bool_inv]
 exact ⟨rfl,hb⟩
end Ab
namespace Ab
open Go Go.RowKit Go.Proofs Go.ChangeShapes Go.WideShapes Go.ChangeAt
end Ab

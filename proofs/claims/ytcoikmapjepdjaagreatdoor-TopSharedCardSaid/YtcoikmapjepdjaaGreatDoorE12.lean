/-
  Texts packed for a claim.
-/
import Derived.Test.YtcoikmapjepdjaaGreatDoorE00
import Derived.Lib.AtoiAll
import Derived.Lib.ItoaNum
import Derived.Test.YtcoikmapjepdjaaGreatDoorE07
import Derived.Test.YtcoikmapjepdjaaGreatDoorE09
import Derived.Test.YtcoikmapjepdjaaGreatDoorE10
set_option linter.all false
namespace Ab
open Go Go.Proofs
instance loose:Mode:=⟨False⟩
attribute [local irreducible] aws awp aw1 Og Om Oc Oa Wb Vb QFn ACode ACalls AYield
theorem Uei (n:Nat):(Oyez.digitsN n).length≤n+1:=by
 induction n using Nat.strongRecOn with
 | _ n ih =>
  rcases Qzn n 10 with h | h
  ·rw [Oyez.digitsN_lt h];simp
  ·rw [Oyez.digitsN_ge h,List.length_append]
   have:=ih (n / 10) (by omega)
   simp only [List.length_cons,List.length_nil]
   omega
theorem Zf2 (c:UInt8):Oyez.isDig c=true↔48≤c.toNat∧c.toNat≤57:=by
 simp [Oyez.isDig,UInt8.le_iff_toNat_le]
end Ab
namespace Ab
open Go Go.Proofs
attribute [local irreducible] aws awp aw1 Og Om Oc Oa Ogd Ov Ot awd Ua Wb Vb QFn Zc ACode ACalls AYield
theorem mixed:Tryz.prog.follows .mixedOrders=true:=by kernel_rfl
def strs (ws:List (List UInt8)):List AV:=ws.map AV.str
def Yo (ws:List (List UInt8)):AV:=.pl 1 (strs ws)
def Xw (ws:List (List UInt8)):Nat:=(ws.map fun w=>w.length+1).sum
theorem Wh5 (ws:List (List UInt8)):(ws.flatMap fun w=>(32:UInt8)::w).length=Xw ws:=by
 induction ws with
 | nil=>rfl
 | cons w t ih=>simp [Xw] at *;omega
theorem Yc7 {ws:List (List UInt8)} {w:List UInt8} (h:w∈ws):w.length+1≤Xw ws:=by
 induction ws with
 | nil=>simp at h
 | cons x t ih =>
  rcases List.mem_cons.1 h with rfl | h
  ·simp [Xw]
  ·have:=ih h;simp [Xw] at *;omega
theorem Vfy (k:Int):(Oyez.name k).length≤6:=by
 unfold Oyez.name
 generalize k.toNat=n
 match n with
 | 0=>decide
 | 1=>decide
 | 2=>decide
 | 3=>decide
 | _+4=>exact (by decide:([112,108,101,97]:List UInt8).length≤6)
end Ab
namespace Ab
open Go Go.Proofs
attribute [local irreducible] aws awp aw1 Og Om Oc Oa Ogd Ov Ot awd Ua Wb Vb QFn Zc ACode ACalls AYield
def Zm (r:Oyez.Rec):AV:=.agg [.int .i64 r.kind,.int .i64 r.number,Yo r.words]
def Ys (f:List Oyez.Rec):AV:=.pl 3 (f.map Zm)
attribute [simp] Yo strs Zm Ys
def Ud2 (w:List UInt8):Int:=match Oyez.kindOf w with | some k=>k | none=>-1
def Vie (w:List UInt8):List (List UInt8)→List (List UInt8)
 | []=>[w]
 | x::r=>(w++x)::r
theorem Xe9 (ws:List (List UInt8)):(strs ws).length=ws.length:=by simp [strs]
end Ab
namespace Oyez
open Go
end Oyez
namespace Ab
open Go Go.Proofs
attribute [local irreducible] aws awp aw1 Og Om Oc Oa Ogd Ov Ot awd Ua Wb Vb QFn Zc ACode ACalls AYield
def Zib (f:List Oyez.Rec):Prop:=∀ r∈f,Xw r.words≤2^49∧r.words.length≤2^49
def Yal (f:List Oyez.Rec) (i:Nat):Option Oyez.Place:=if i=0 then none else (f[i - 1]?).map Oyez.Rec.place
end Ab
namespace Ab
open Go Go.Proofs
attribute [local irreducible] aws awp aw1 Og Om Oc Oa Ogd Ov Ot awd Ua Wb Vb QFn Zc ACode ACalls AYield
def Zie (x:Except (Nat × Int) Oyez.Rec):AV:=match x with
 | .ok r=>.tup [Zm r,.int .i64 0,.int .i64 0]
 | .error (w,e)=>.tup [Zm ⟨0,0,[]⟩,.int .i64 w,.int .i64 e]
theorem Yhe (n:Nat) (σ:Za) (ws:List (List UInt8)):Fz n σ (.pl 1 (List.map AV.str ws)) (.pl 1 (List.map AV.str ws))↔True:=by
 refine ⟨fun _=>trivial,fun _=>.pl 1 _ fun i x hx j y hy=>?_⟩
 rw [Qzp,Qzm] at hx
 obtain ⟨w,_,rfl⟩:=hx
 cases j with
 | zero=>simp [AV.cells] at hy;subst hy;exact .str w
 | succ j=>simp [AV.cells] at hy
attribute [simp] Yhe
end Ab
namespace Ab
open Go Go.Proofs
attribute [local irreducible] aws awp aw1 Og Om Oc Oa Ogd Ov Ot awd Ua Wb Vb QFn Zc ACode ACalls AYield
def Uhn (p:Oyez.Parsed):AV:=.tup [Ys p.recs,.int .i64 p.line,.int .i64 p.word,.int .i64 p.err]
def Vas (r:Oyez.Rec):List AV:=[.int .i64 r.kind,.int .i64 r.number,Yo r.words]
def cutAt (s:List UInt8):List UInt8:=(Oyez.cutLine s).2.2
theorem Acc.more {σ g:Za} {k:Nat} {v:AV} {l:List AV} {o:Option Nat} (h:Acc σ g k v l o) (y:Za):Acc σ (g++y) k v l o:=⟨h.len,by
 have:=h.val
 cases o with
 | none=>exact this
 | some j=>exact ⟨this.1,by rw [Qzl (Qzs.1 this.2).1];exact this.2⟩⟩
theorem Acc.base {σ σ' g:Za} {k:Nat} {v:AV} {l:List AV} {o:Option Nat} (h:Acc σ g k v l o) (hl:σ.length=σ'.length):Acc σ' g k v l o:=⟨h.len,by
 have hv:=h.val
 cases o with
 | none=>exact hv
 | some j=>rw [← hl];exact hv⟩
def glue (f:List Oyez.Rec) (p:Oyez.Parsed):Oyez.Parsed:=if p.err=0 then ⟨f++p.recs,0,0,0⟩ else p
def Vcb (f:List Oyez.Rec):Option Oyez.Place:=f.getLast?.map Oyez.Rec.place
def Xib (s:List UInt8) (at_:Nat) (f:List Oyez.Rec):Oyez.Parsed:=glue f (Oyez.parseLines (Oyez.linesOf (s.drop at_)) (Vcb f) f.length)
end Ab
namespace Ab
open Go Go.Proofs
attribute [local irreducible] aws awp aw1 Og Om Oc Oa Ogd Ov Ot awd Ua Wb Vb QFn Zc ACode ACalls AYield
end Ab
namespace Oyez
def RSorted (f:List Rec):Prop:=Sorted (f.map Rec.place)
def Zez (f:List Rec):Prop:=∀ r∈f,r.place∈allPlaces
theorem Xel {p:Option Place} {f:List Rec} (h:checkFrom p f=0):(∀ r∈f,recErr r=0)∧RSorted f∧∀ q,p=some q→∀ r∈f,q.lt r.place=true:=by
 induction f generalizing p with
 | nil=>simp [RSorted,Sorted]
 | cons r t ih =>
  simp only [checkFrom] at h
  split at h
  ·rename_i h1;exact absurd h h1
  ·rename_i h1
   split at h
   ·cases h
   ·rename_i h2
    obtain ⟨g1,g2,g3⟩:=ih h
    have hp:∀ q,p=some q→q.lt r.place=true:=fun q hq=>by rw [hq] at h2;simpa using h2
    refine ⟨?_,?_,fun q hq x hx=>?_⟩
    ·intro x hx
     rcases List.mem_cons.1 hx with rfl | hx
     ·simpa using h1
     ·exact g1 x hx
    ·refine List.pairwise_cons.2 ⟨fun y hy=>?_,g2⟩
     obtain ⟨x,hx,rfl⟩:=List.mem_map.1 hy
     exact g3 _ rfl x hx
    ·rcases List.mem_cons.1 hx with rfl | hx
     ·exact hp q hq
     ·exact Place.lt_trans (hp q hq) (g3 _ rfl x hx)
theorem Vfh {k n:Int} (h:placeErr k n=0):(⟨k,n⟩:Place)∈allPlaces:=by
 unfold placeErr at h
 rw [Ugc]
 split at h
 ·cases h
 ·split at h
  ·cases h
  ·show (0≤k∧k<5)∧0≤n∧n<1000
   omega
theorem recErr_place {r:Rec} (h:recErr r=0):placeErr r.kind r.number=0∧wordsErr r.kind r.number r.words=0:=by
 unfold recErr oneErr at h
 split at h
 ·rename_i h1;exact absurd h h1
 ·rename_i h1;exact ⟨by simpa using h1,h⟩
structure Right (f:List Rec):Prop where
 len:f.length≤40
 recs:∀ r∈f,recErr r=0
 sorted:RSorted f
theorem Right.range {f:List Rec} (h:Right f):Zez f:=fun r hr=>Vfh (recErr_place (h.recs r hr)).1
theorem check_zero {f:List Rec} (h:check f=0):Right f:=by
 unfold check at h
 split at h
 ·cases h
 ·obtain ⟨h1,h2,_⟩:=Xel h
  exact ⟨by omega,h1,h2⟩
def recAt (F:Place→St) (p:Place):Option Rec:=(F p).map fun ws=>⟨p.kind,p.number,ws⟩
def Ve2 (r:Rec):Bool→List Rec→List Rec
 | done,[]=>if done then [] else [r]
 | done,q::t =>
  (if !done&&!q.place.lt r.place then [r] else [])++(if q.place=r.place then [] else [q])++Ve2 r (done||!q.place.lt r.place) t
end Oyez
namespace Oyez
def dd (l:List Place):List Place:=l.foldl (fun a q=>if a.getLast? = some q then a else a++[q]) []
end Oyez
namespace Ab
open Go Go.RowKit Go.Proofs
attribute [local irreducible] aws awp aw1 Og Om Oc Oa Ogd Ov Ot awd Ua awh Xb Ogh Ohd awl Ogl Ohl awv Ogv Ohv Wb Vb QFn Zc QRo QBe ACode AYield
def Zn (l:List UInt8):List AV:=l.map fun b=>AV.int .u8 b.toNat
def Yc (l:List UInt8) (a:Nat) (c:Int):AObj:=.cells [.pl 1 (Zn l),.int .i64 a,.int .u32 c]
theorem Xep (x:Int):0≤IntKind.u32.wrap x∧IntKind.u32.wrap x<2^32:=by
 have:IntKind.u32.wrap x=x % 4294967296:=by
  simp [IntKind.wrap,IntKind.bits,IntKind.signed]
 rw [this]
 omega
theorem Yx (x:Int):0≤IntKind.i64.wrap (IntKind.u32.wrap x)∧IntKind.i64.wrap (IntKind.u32.wrap x)<4294967296:=by
 have:=Xep x
 rw [w64 (by omega) (by omega)]
 omega
set_option maxHeartbeats 2000000 in
theorem Ucv (σ:Za) (d:Nat) (l:List UInt8) (a:Nat) (c:Int) (h:σ[d]? = some (Yc l a c)) (ha:a≤l.length) (hl:l.length≤9223372036854775807) :
  ACalls Tryz.prog 131 [.ptr d 0] σ (fun v σ'=>∃ (n:Int) (a':Nat) (c':Int),v=.int .i64 n∧0≤n∧n<2^32∧a'≤l.length∧σ'=σ.set d (Yc l a' c')):=by
 have hd:=(Qzs.1 h).1
 have hs:∀ X:AObj,(σ.set d X)[d]? = some X:=fun X=>by simp [hd]
 unfold Yc at h
 refine Yb Tryz.func131 rfl (Zb Tryz.func131 (by decide) rfl) ?_
 simp [Tryz.ntmps131]
 refine Yl mixed (by kernel_rfl) ?_
 by_cases he:a=l.length
 ·subst he
  by_cases h0:l.length=0
  ·have h0':(l.length:Int)=0:=by omega
   obtain rfl:=List.eq_nil_of_length_eq_zero h0
   simp [h,hs,Zn]
   exact ⟨(Yx _).1,(Yx _).2,_,rfl⟩
  ·have h0':(0:Int)<(l.length:Int):=by omega
   have h0'':0<l.length:=by omega
   simp [h,hs,Zn,h0',h0'']
   refine Yl mixed (by kernel_rfl) ?_
   simp [h,hs,Zn,h0',h0'']
   exact ⟨(Yx _).1,(Yx _).2,1,by omega,_,by rw [w64 (by omega) (by omega)];rfl⟩
 ·have he':¬ (a:Int)=(l.length:Int):=by omega
  have h0':(0:Int)<(l.length:Int):=by omega
  have hlt:a<l.length:=by omega
  have hlt':(a:Int)<(l.length:Int):=by omega
  have hx:=w64 (n:=(a:Int)+1) (by omega) (by omega)
  have h0n:0<l.length:=by omega
  simp [h,hs,Zn,he,he',h0',h0n,hlt]
  refine Yl mixed (by kernel_rfl) ?_
  simp [h,hs,Zn,he,he',h0',h0n,hlt,hlt',hx]
  exact ⟨(Yx _).1,(Yx _).2,a+1,by omega,_,rfl⟩
end Ab
namespace Ab
open Go Go.RowKit
variable [Mode]
variable {P:Program}
theorem Inv.frzT {C₀ C:Ctx} {σ τ g:Za} (hI₀:Inv C₀ σ) (hE:Ext C₀ C) (hI:Inv C (τ++g)) (hlt:τ.length=σ.length)
  (hold:∀ (r:Nat) (o:AObj),τ[r]? = some o→σ[r]? = some o∨∃ cs,o=.cells cs∧∀ y∈cs,Fz τ.length (τ++g) y y):Inv (C.frz τ.length (τ++g)) τ:=by
 have hlen:=hI.len
 have hlen₀:=hI₀.len
 simp at hlen
 have hb:∀ r b,(C.frz τ.length (τ++g)).blk[r]? = some b→C.blk[r]? = some b∧r<τ.length:=by
  intro r b hr
  simp only [Ctx.frz] at hr
  rcases Qzn r τ.length with h | h
  ·rw [List.getElem?_take_of_lt h] at hr;exact ⟨hr,h⟩
  ·rw [List.getElem?_eq_none (by simp;omega)] at hr;cases hr
 have up:∀ (r:Nat) (o:AObj),r<τ.length→τ[r]? = some o→(τ++g)[r]? = some o:=fun r o h1 h2=>by rw [Qzl h1];exact h2
 refine ⟨by simp [Ctx.frz,hlen],hI.glob,hI.base,fun b hb=>.inl (hI.basep b hb),fun b hb=>?_,fun r b o hr ho hl=>?_,fun r1 r2 b o1 o2 h1 h2 ho1 ho2 hl1 hl2=>?_⟩
 ·rcases hb with hb | ⟨r,o,_,h1,h2,h3⟩
  ·exact hI.plt b hb
  ·obtain ⟨_,c,hc,_⟩:=hI.live r b o h1 h2 h3
   exact (Array.getElem?_eq_some_iff.1 hc).1
 ·obtain ⟨h1,h2⟩:=hb r b hr
  obtain ⟨hnp,c,hc,hR⟩:=hI.live r b o h1 (up r o h2 ho) hl
  refine ⟨?_,c,hc,?_⟩
  ·rintro (hp | ⟨r',o',g1,g2,g3,g4⟩)
   ·exact hnp hp
   ·have:=hI.inj r r' b o o' h1 g2 (up r o h2 ho) g3 hl g4
    omega
  ·rcases hold r o ho with ho | ⟨cs,rfl,hz⟩
   ·have h0:C₀.blk[r]? = some (C₀.blk[r]'(by omega)):=Qze (by omega)
    obtain ⟨_,c₀,_,hR₀⟩:=hI₀.live r _ o h0 ho hl
    exact hR₀.frz_old (by omega) hR
   ·cases hR with
    | cells _ vs e lo hi q1 q2 q3 =>
     refine .cells cs vs e lo hi q1 q2 fun i x v hx hv=>?_
     exact (q3 i x v hx hv).frz hI (hz x (Qzg hx))
 ·obtain ⟨h1,h1'⟩:=hb r1 b h1
  obtain ⟨h2,h2'⟩:=hb r2 b h2
  exact hI.inj r1 r2 b o1 o2 h1 h2 (up _ _ h1' ho1) (up _ _ h2' ho2) hl1 hl2
theorem ACalls.forgetT {f:FuncId} {args:List AV} {σ:Za} {R:AV→Za→Prop} (h:ACalls P f args σ fun v σ'=>∃ τ g v',σ'=τ++g∧τ.length=σ.length ∧
   (∀ (r:Nat) (o:AObj),τ[r]? = some o→σ[r]? = some o∨∃ cs,o=.cells cs∧∀ y∈cs,Fz τ.length (τ++g) y y)∧Fz τ.length σ' v v'∧R v' τ):ACalls P f args σ R:=by
 have ext:∀ {C C':Ctx} {τ g:Za},Inv C σ→Ext C C'→τ.length=σ.length→Ext C (C'.frz τ.length (τ++g)):=by
  intro C C' τ g hI hE hl
  obtain ⟨e,he⟩:=hE.blk
  have hl0:=hI.len
  exact ⟨hE.w0,⟨[],by simp only [Ctx.frz];rw [he,List.append_nil,hl,← hl0,List.take_left]⟩,fun b hb=>.inl (hE.pers b hb),hE.keep,hE.shape,hE.size,hE.drawn⟩
 rcases h with h | h
 ·refine .inl ⟨h.1,fun C cargs hI hv=>(h.2 C cargs hI hv).mono ?_⟩
  rintro e w' ⟨v,C',av,σ',rfl,rfl,hE,hI',hv',τ,g,v',rfl,hl,ho,hf,hR⟩
  exact ⟨v,C'.frz τ.length (τ++g),v',τ,rfl,rfl,ext hI hE hl,hI.frzT hE hI' hl ho,hv'.frz hI' hf,hR⟩
 ·refine .inr fun C cargs hI hv=>?_
  obtain ⟨v,C',av,σ',hr,hE,hI',hv',τ,g,v',rfl,hl,ho,hf,hR⟩:=h C cargs hI hv
  exact ⟨v,C'.frz τ.length (τ++g),v',τ,hr,ext hI hE hl,hI.frzT hE hI' hl ho,hv'.frz hI' hf,hR⟩
theorem APure.lend {f:FuncId} {args args':List AV} {v:AV} (h:APure P f args v) {σ:Za} (hl:args'.length=args.length)
  (hz:∀ (i:Nat) (x y:AV),args'[i]? = some x→args[i]? = some y→Fz 0 σ x y) (hp:∀ (C C':Ctx) (c:Value),VR C v c→VR C' v c):ACalls P f args' σ fun v' σ'=>v'=v∧σ'=σ:=by
 have lent:∀ {C:Ctx} {cargs:List Value},Inv C σ→VRs C args' cargs→VRs (C.frz 0 σ) args cargs:=by
  intro C cargs hI hv
  refine ⟨hl▸hv.len,fun i y c hy hc=>?_⟩
  have hi:=(Qzs.1 hy).1
  have hx:args'[i]? = some (args'[i]'(by omega)):=Qze (by omega)
  exact (hv.at_ i _ c hx hc).frz hI (hz i _ y hx hy)
 rcases h [] with h | h
 ·refine .inl ⟨h.1,fun C cargs hI hv=>(h.2 (C.frz 0 σ) cargs hI.base0 (lent hI hv)).mono ?_⟩
  rintro e w' ⟨c,C',av,s,rfl,rfl,hE,hI',hv',rfl,rfl⟩
  obtain ⟨h1,h2⟩:=hI.back0 hE hI'
  exact ⟨c,C.at_ C'.w,_,σ,rfl,rfl,h1,h2,hp _ _ _ hv',rfl,rfl⟩
 ·refine .inr fun C cargs hI hv=>?_
  obtain ⟨c,C',av,s,hr,hE,hI',hv',rfl,rfl⟩:=h (C.frz 0 σ) cargs hI.base0 (lent hI hv)
  obtain ⟨h1,h2⟩:=hI.back0 hE hI'
  exact ⟨c,C.at_ C'.w,_,σ,hr,h1,h2,hp _ _ _ hv',rfl,rfl⟩
theorem ACalls.pl0 {f:FuncId} {k:Nat} {σ:Za} {R:AV→Za→Prop} (hen:Enters P f) (h1:ACalls P f [.nils] σ R) (h2:ACalls P f [.nn] σ R):ACalls P f [.pl k []] σ R:=by
 have ent:∀ {a:AV},ACalls P f [a] σ R→∀ C:Ctx,Inv C σ→(∃ c,VR C a c)→AEnter P f [a] σ R:=by
  intro a h C hI ⟨c,hc⟩
  rcases h with h | h
  ·exact h
  ·obtain ⟨v,C',av,σ',hr,_⟩:=h C [c] hI ⟨rfl,fun i x c' hx hc'=>by
    match i,hx,hc' with
    | 0,hx,hc'=>simp at hx hc';subst hx;subst hc';exact hc
    | i+1,hx,_=>simp at hx⟩
   rw [hen] at hr
   cases hr
 refine .inl ⟨hen,fun C cargs hI hv=>?_⟩
 obtain ⟨x,r,rfl,hx,hr⟩:=hv.inv
 obtain rfl:=hr.of_nil
 obtain ⟨A,cap,rfl,_,_⟩:=hx.pl_inv
 have hcap:=hx.pl_cap
 have one:∀ (a:AV) (c:Value),VR C a c→VRs C [a] [c]:=fun a c h=>⟨rfl,fun i x c' hx hc'=>by
  match i,hx,hc' with
  | 0,hx,hc'=>simp at hx hc';subst hx;subst hc';exact h
  | i+1,hx,_=>simp at hx⟩
 cases A with
 | none =>
  obtain rfl:=hcap rfl
  exact (ent h1 C hI ⟨_,.nils⟩).2 C _ hI (one _ _ .nils)
 | some a=>exact (ent h2 C hI ⟨_,.nn a cap⟩).2 C _ hI (one _ _ (.nn a cap))
end Ab
namespace Ab
open Go Go.RowKit
variable [Mode]
variable {P:Program}
def cold (n:Nat) (σ:Za):Za:=σ.take n++List.replicate (σ.length - n) .dead
theorem Zcl {n:Nat} {σ:Za}:(cold n σ).length=σ.length:=by
 unfold cold;simp;omega
theorem Ve4 {n r:Nat} {σ:Za} (h:r<n):(cold n σ)[r]? = σ[r]?:=by
 unfold cold
 rcases Qzn r σ.length with h1 | h1
 ·rw [Qzl (by simp;omega),List.getElem?_take_of_lt h]
 ·rw [List.getElem?_eq_none (by simp;omega),List.getElem?_eq_none h1]
theorem Zbk {n r:Nat} {σ:Za} {o:AObj} (h:(cold n σ)[r]? = some o) (hl:o.live=true):r<n∧σ[r]? = some o:=by
 rcases Qzn r n with h1 | h1
 ·exact ⟨h1,by rw [← Ve4 h1];exact h⟩
 ·exfalso
  have h2:=(Qzs.1 h).1
  rw [Zcl] at h2
  unfold cold at h
  rw [Qzr (by simp;omega),List.getElem?_replicate] at h
  split at h
  ·cases h;cases hl
  ·cases h
def Ctx.ice (C:Ctx) (n:Nat) (σ:Za):Ctx :=
 { C with pers:=fun b=>C.pers b∨∃ (r:Nat) (o:AObj),n≤r∧C.blk[r]? = some b∧σ[r]? = some o∧o.live=true }
theorem Ext.ice {C:Ctx} (n:Nat) (σ:Za):Ext C (C.ice n σ):=⟨rfl,⟨[],by simp [Ctx.ice]⟩,fun _ h=>.inl h,fun _ _=>rfl,fun _ _ h=>h,Nat.le_refl _,fun _=>Nat.le_refl _⟩
theorem Ext.frz_ice {C:Ctx} (n:Nat) (σ:Za):Ext (C.frz n σ) (C.ice n σ) :=
 ⟨rfl,⟨C.blk.drop n,by simp [Ctx.ice,Ctx.frz]⟩,fun _ h=>h,fun _ _=>rfl,fun _ _ h=>h,Nat.le_refl _,fun _=>Nat.le_refl _⟩
theorem Inv.ice {C:Ctx} {σ:Za} (hI:Inv C σ) (n:Nat):Inv (C.ice n σ) (cold n σ):=by
 refine ⟨by rw [Zcl];exact hI.len,hI.glob,hI.base,fun b hb=>.inl (hI.basep b hb),fun b hb=>?_,fun r b o hr ho hl=>?_,fun r1 r2 b o1 o2 h1 h2 ho1 ho2 hl1 hl2=>?_⟩
 ·rcases hb with hb | ⟨r,o,_,h1,h2,h3⟩
  ·exact hI.plt b hb
  ·obtain ⟨_,c,hc,_⟩:=hI.live r b o h1 h2 h3
   exact (Array.getElem?_eq_some_iff.1 hc).1
 ·obtain ⟨h1,h2⟩:=Zbk ho hl
  obtain ⟨hnp,c,hc,hR⟩:=hI.live r b o hr h2 hl
  refine ⟨?_,c,hc,hR.ext (Ext.ice n σ)⟩
  rintro (hp | ⟨r',o',g1,g2,g3,g4⟩)
  ·exact hnp hp
  ·have:=hI.inj r r' b o o' hr g2 h2 g3 hl g4
   omega
 ·exact hI.inj r1 r2 b o1 o2 h1 h2 (Zbk ho1 hl1).2 (Zbk ho2 hl2).2 hl1 hl2
theorem ACalls.freeze {f:FuncId} {args args':List AV} {σ:Za} {R:AV→Za→Prop} (n:Nat) (h:ACalls P f args' (cold n σ) R) (hl:args'.length=args.length)
  (hz:∀ (i:Nat) (x y:AV),args[i]? = some x→args'[i]? = some y→Fz n σ x y):ACalls P f args σ R:=by
 have lent:∀ {C:Ctx} {cargs:List Value},Inv C σ→VRs C args cargs→VRs (C.ice n σ) args' cargs:=by
  intro C cargs hI hv
  refine ⟨hl▸hv.len,fun i y c hy hc=>?_⟩
  have hi:=(Qzs.1 hy).1
  have hx:args[i]? = some (args[i]'(by omega)):=Qze (by omega)
  exact ((hv.at_ i _ c hx hc).frz hI (hz i _ y hx hy)).ext (Ext.frz_ice n σ)
 rcases h with h | h
 ·refine .inl ⟨h.1,fun C cargs hI hv=>(h.2 (C.ice n σ) cargs (hI.ice n) (lent hI hv)).mono ?_⟩
  rintro e w' ⟨v,C',av,s,rfl,rfl,hE,hI',hv',hR⟩
  exact ⟨v,C',av,s,rfl,rfl,(Ext.ice n σ).trans hE,hI',hv',hR⟩
 ·refine .inr fun C cargs hI hv=>?_
  obtain ⟨v,C',av,s,hr,hE,hI',hv',hR⟩:=h (C.ice n σ) cargs (hI.ice n) (lent hI hv)
  exact ⟨v,C',av,s,hr,(Ext.ice n σ).trans hE,hI',hv',hR⟩
theorem Fz.tup2 {n:Nat} {σ:Za} {a b a' b':AV} (h1:Fz n σ a a') (h2:Fz n σ b b'):Fz n σ (.tup [a,b]) (.tup [a',b']) :=
 .tup _ _ rfl fun i x y hx hy=>by
  match i with
  | 0=>simp at hx hy;subst hx;subst hy;exact h1
  | 1=>simp at hx hy;subst hx;subst hy;exact h2
  | i+2=>simp at hx
theorem Acc.shift {σ s g:Za} {k:Nat} {v:AV} {l:List AV} {o:Option Nat} (h:Acc (σ++s) g k v l o):Acc σ (s++g) k v l (o.map (s.length+·)):=⟨h.len,by
 have:=h.val
 cases o with
 | none=>exact this
 | some j =>
  obtain ⟨h1,h2⟩:=this
  refine ⟨by rw [h1,List.length_append,Nat.add_assoc],?_⟩
  show (s++g)[s.length+j]? = _
  rw [Qzr (by omega),show s.length+j - s.length=j by omega]
  exact h2⟩
end Ab
namespace Oyez
def Vii:List S→S
 | []=>[]
 | w::t=>w++t.flatMap (fun x=>32::x)
def cat (l:List (S × Bool)):S:=l.flatMap fun x=>x.1++if x.2 then [10] else []
def okL:List (S × Bool)→Prop
 | []=>True
 | (w,e)::t=>(10:UInt8)∉w∧(e=false→w≠[]∧t=[])∧okL t
end Oyez
namespace Oyez
def sp (c:UInt8) (sv:Bool):S→List S
 | []=>[[]]
 | b::t=>if b=c then (if sv then [b] else [])::sp c sv t else
  match sp c sv t with
  | []=>[[b]]
  | w::r=>(b::w)::r
def piece (x:S × Bool):S:=x.1++if x.2 then [10] else []
end Oyez
namespace Oyez
def putR (r:Rec):Bool→List Rec→List Rec
 | done,[]=>if done then [] else [r]
 | done,x::t=>(if !done&&!(x.place.lt r.place) then [r] else [])++((if x.place=r.place then [] else [x])++putR r (done||!(x.place.lt r.place)) t)
end Oyez
namespace Ab
open Go Go.RowKit Go.Proofs
attribute [local irreducible] aws awp aw1 Og Om Oc Oa Ogd Ov Ot awd Ua Wb Vb QFn Zc ACode ACalls AYield
def Yhx (o:Option (List (List UInt8))):List (List UInt8):=o.getD []
def Vic (f:List Oyez.Rec) (p:Oyez.Place):List Oyez.Rec × Int:=if (Oyez.getIn f p).isSome then (Oyez.drop f p,0) else ([],1)
def Vij (f:List Oyez.Rec) (r:Oyez.Rec):List Oyez.Rec × Int:=if 40<(Oyez.putR r false f).length then ([],2) else (Oyez.putR r false f,0)
end Ab
namespace Oyez
def upTo (k n:Nat):List Place:=allPlaces.take (1000*k+n)
def Vin (base a b:List Rec) (second:List Bool) (k n:Nat):Jn:=(upTo k n).foldl (Ycg base a b second) ⟨[],[]⟩
end Oyez
namespace Ab
open Go Go.RowKit Go.Proofs
attribute [local irreducible] aws awp aw1 Og Om Oc Oa Ogd Ov Ot awd Ua Wb Vb QFn Zc ACode AYield
def Ubj (c:Oyez.Chg):AV:=.agg [.int .i64 c.kind,.int .i64 c.number,.bool c.had,.bool c.has,Yo c.old,Yo c.new]
def Uek (l:List Oyez.Chg):AV:=.pl 6 (l.map Ubj)
attribute [simp] Ubj Uek
end Ab
namespace Oyez
def Wbj (J:Jn) (p:Place) (w:St):Jn:=⟨match w with | some ws=>J.out++[⟨p.kind,p.number,ws⟩] | none=>J.out,J.conf⟩
def Wg7 (second:List Bool) (i:Nat) (x y z:St):St:=match second[i]? with | none=>x | some c=>if c then z else y
def stepJ (x y z:St) (second:List Bool) (p:Place) (J:Jn):Jn :=
 if y=z∨z=x then Wbj J p y else if y=x then Wbj J p z else Wbj ⟨J.out,J.conf++[chg p y z]⟩ p (Wg7 second J.conf.length x y z)
end Oyez
namespace Ab
open Go Go.RowKit Go.Proofs
attribute [local irreducible] aws awp aw1 Og Om Oc Oa Ogd Ov Ot awd Ua Wb Vb QFn Zc ACode AYield
def Wih (c:Oyez.Chg):List AV:=[.int .i64 c.kind,.int .i64 c.number,.bool c.had,.bool c.has,Yo c.old,Yo c.new]
structure JS (σ:Za) (J:Oyez.Jn) (v1 v2:AV) (g:Za):Prop where
 ex:∃ o1 o2,Acc σ g 3 v1 (J.out.map Zm) o1∧Acc σ g 6 v2 (J.conf.map Ubj) o2∧∀ j,o1=some j→o2=some j→False
theorem Acc.lt {σ g:Za} {k:Nat} {v:AV} {l:List AV} {j:Nat} (h:Acc σ g k v l (some j)):j<g.length:=(Qzs.1 h.val.2).1
theorem Acc.keep {σ g g':Za} {k:Nat} {v:AV} {l:List AV} {o:Option Nat} (h:Acc σ g k v l o) (hk:∀ j,o=some j→g'[j]? = g[j]?):Acc σ g' k v l o:=⟨h.len,by
 have hv:=h.val
 cases o with
 | none=>exact hv
 | some j=>exact ⟨hv.1,by rw [hk j rfl];exact hv.2⟩⟩
end Ab
namespace Ab
open Go Go.RowKit
variable [Mode]
variable {P:Program}
theorem ACode.frz {rd:Option Nat} {c:Code} {Q:Exit→Env→Za→Prop} {u u':List AV} {m:List Nat} {σ:Za} (n:Nat) (h:ACode P rd c Q { t:=u',m:=m } (cold n σ)) (hl:u'.length=u.length)
  (hz:∀ (i:Nat) (x y:AV),u[i]? = some x→u'[i]? = some y→Fz n σ x y):ACode P rd c Q { t:=u,m:=m } σ:=by
 intro C a ro hI he hr
 have he':ER (C.ice n σ) { t:=u',m:=m } a:=⟨⟨hl▸he.t.len,fun i y c hy hc=>by
  have hi:i<u'.length:=(Qzs.1 hy).1
  have hx:u[i]? = some (u[i]'(by omega)):=Qze (by omega)
  exact ((he.t.at_ i _ c hx hc).frz hI (hz i _ y hx hy)).ext (Ext.frz_ice n σ)⟩,he.m,fun i r d h1 h2=>he.mark i r d h1 h2⟩
 exact wpIn_mono (h (C.ice n σ) a ro (hI.ice n) he' (hr.ext (Ext.ice n σ))) fun _ _ _ hp=>hp.ext (Ext.ice n σ)
def Zh (u:List AV) (l:List (Nat × AV)):List AV:=l.foldl (fun t p=>ts t p.1 p.2) (List.replicate u.length .any)
theorem Yad (u:List AV) (l:List (Nat × AV)):(Zh u l).length=u.length:=by
 unfold Zh
 suffices h:∀ (l:List (Nat × AV)) (t:List AV),(l.foldl (fun t p=>ts t p.1 p.2) t).length=t.length by rw [h,List.length_replicate]
 intro l
 induction l with
 | nil=>intro t;rfl
 | cons p l ih=>intro t;rw [List.foldl_cons,ih];simp [ts]
end Ab

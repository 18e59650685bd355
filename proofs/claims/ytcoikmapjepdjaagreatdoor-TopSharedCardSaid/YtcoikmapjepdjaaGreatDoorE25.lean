/-
  Texts packed for a claim.
-/
import Derived.Test.YtcoikmapjepdjaaGreatDoorE00
import Derived.Test.YtcoikmapjepdjaaGreatDoorE21
import Derived.Test.YtcoikmapjepdjaaGreatDoorE22
import Derived.Test.YtcoikmapjepdjaaGreatDoorE23
import Derived.Test.YtcoikmapjepdjaaGreatDoorE24
set_option linter.all false
namespace Ab
open Go Go.RowKit Go.Proofs
def MdP (n:Nat) (o:Option Nat) (r:Nat):Bool:=decide (n≤r)&&decide (o≠some (r - n))
theorem Vy {L:List AV} (h:∀ y∈L,y.cells=[y]):L.flatMap AV.cells=L:=by
 induction L with
 | nil=>rfl
 | cons x L ih=>rw [List.flatMap_cons,ih fun y hy=>h y (by simp [hy]),h x (by simp)];rfl
theorem View.acc {S g:Za} {v:AV} {L L':List AV} {o:Option Nat} (hA:Acc S g 1 v L o) (hl:L'.length=L.length) (h0:∀ y∈L,y.cells=[y]) (h1:∀ y∈L',y.one=true∧y.cells=[y])
  (hz:∀ (i:Nat) (x y:AV),L[i]? = some x→L'[i]? = some y→Vw (MdP S.length o) (S++g) x y):∃ g',g'.length=g.length∧View (MdP S.length o) (S++g) (S++g')∧Acc S g' 1 v L' o:=by
 refine ⟨g.mapIdx fun j _=>if o=some j then .cells L' else .dead,by simp,⟨by simp,fun r o' ho hlv=>?_⟩,⟨fun x hx=>⟨by rw [(h1 x hx).2];rfl,fun y hy=>by rw [(h1 x hx).2,List.mem_singleton] at hy;rw [hy];exact (h1 x hx).1⟩,?_⟩⟩
 ·rcases Qzn r S.length with h | h
  ·rw [Qzl h] at ho
   exact ⟨by unfold MdP;simp;omega,o',by rw [Qzl h];exact ho,hlv,.inl rfl⟩
  ·rw [Qzr h,List.getElem?_mapIdx,Qzm] at ho
   obtain ⟨x,hx,rfl⟩:=ho
   split at hlv
   ·rename_i e
    subst e
    have hv:=hA.val
    rw [Vy h0] at hv
    refine ⟨by unfold MdP;simp,.cells L,by rw [Qzr h];exact hv.2,rfl,.inr ⟨L,L',rfl,by rw [if_pos rfl],hl,hz⟩⟩
   ·cases hlv
 ·have hv:=hA.val
  cases o with
  | none=>exact ⟨hv.1,List.eq_nil_of_length_eq_zero (by rw [hl,hv.2];rfl)⟩
  | some j =>
   refine ⟨by rw [hv.1,hl],?_⟩
   have hj:=(Qzs.1 hv.2).1
   rw [List.getElem?_mapIdx,Qze hj,Vy fun y hy=>(h1 y hy).2]
   simp
def zBk:AObj:=.cells [.int .i64 0,.int .i64 0,.nils,.nils,.nils]
def Yb5 (hs:Nat) (w:List Int):Prop:=w.Nodup∧(∀ y∈w,0≤y∧y<(hs:Int))∧w.length≤hs
def Md1 (l:List UInt8) (d:Nat) (σ:Za) (hs ns n:Nat) (env:Env) (σ':Za):Prop:=∃ (u:List AV) (i:Nat) (v:AV) (L:List AV) (H:List (List (List Int))) (g:Za) (o:Option Nat) (a:Nat) (c:Int),env={ t:=u }∧u.length=112∧tg u 0=.ptr d 0∧tg u 4=.int .i64 5∧tg u 10=.ptr σ.length 0∧tg u 12=.ptr (σ.length+1) 0∧tg u 27=.int .i64 n∧tg u 28=.int .i64 i∧i≤n ∧
 σ'=(σ.set d (Yc l a c)++[zBk])++(.cells [.int .i64 hs,.int .i64 ns,v,.nils,.nils]::g)∧a≤l.length∧Acc (σ++[zBk,zBk]) g 1 v L o∧H.length=i∧L.length=i∧(∀ y∈L,y.cells=[y])∧(∀ x∈H,x.length=8∧∀ w∈x,Yb5 hs w) ∧
 ∀ (j:Nat) (x y:AV),L[j]? = some x→(H.map Zcd)[j]? = some y→Vw (MdP (σ.length+2) o) σ' x y
def Md2 (l:List UInt8) (d:Nat) (σ:Za) (hs ns n i:Nat) (v:AV) (gH:Za) (env:Env) (σ':Za):Prop:=∃ (u:List AV) (k:Nat) (w:AV) (W:List (List Int)) (g:Za) (o:Option Nat) (a:Nat) (c:Int),env={ t:=u }∧u.length=112∧tg u 0=.ptr d 0∧tg u 4=.int .i64 5∧tg u 10=.ptr σ.length 0∧tg u 12=.ptr (σ.length+1) 0∧tg u 27=.int .i64 n∧tg u 28=.int .i64 i∧tg u 13=w∧tg u 30=.int .i64 k∧k≤8 ∧
 σ'=(σ.set d (Yc l a c)++[zBk])++(.cells [.int .i64 hs,.int .i64 ns,v,.nils,.nils]::(gH++g))∧a≤l.length∧Acc (σ++[zBk,zBk]++gH) g 1 w (W.map Zam) o∧W.length=k∧∀ w∈W,Yb5 hs w
structure Rd (reals:List Nat) (reads:List Int) (w:Int):Prop where
 len:reals.length=reads.length
 lt:∀ (h x:Nat),reals[h]? = some x→x<8∧∃ y,reads[h]? = some y∧(y=-1∨(0≤y∧y≤7)∧Waj x y=true)
 near:∀ (h x y:Nat),reals[h]? = some x→reals[h+1]? = some y→Waj y x=true
 last:∀ x:Nat,reals.getLast? = some x→(x:Int)=w
 w:0≤w∧w≤7
theorem Rd.nil {w:Int} (hw:0≤w∧w≤7):Rd [] [] w:=⟨rfl,fun h x e=>by simp at e,fun h x y e=>by simp at e,fun x e=>by simp at e,hw⟩
theorem Rd.snoc {reals:List Nat} {reads:List Int} {w:Int} (h:Rd reals reads w) {d:Int} (hd:d=-1∨d=0∨d=1) {e:Int} (he:e=-1∨e=0∨e=1) (b:Bool) :
  Rd (reals++[((w+d) % 8).toNat]) (reads++[if b then -1 else ((w+d) % 8+e) % 8]) ((w+d) % 8):=by
 have hm:0≤(w+d) % 8∧(w+d) % 8≤7:=by omega
 have hn:((((w+d) % 8).toNat:Nat):Int)=(w+d) % 8:=by omega
 obtain ⟨W,hW⟩:∃ W:Nat,w=W:=⟨w.toNat,by have:=h.w;omega⟩
 have hw8:W<8:=by have:=h.w;omega
 refine ⟨by simp [h.len],fun i x hx=>?_,fun i x y hx hy=>?_,fun x hx=>?_,hm⟩
 ·rcases Qzn i reals.length with h1 | h1
  ·rw [Qzl h1] at hx
   rw [Qzl (by rw [← h.len];exact h1)]
   exact h.lt i x hx
  ·have h2:=(Qzs.1 hx).1
   simp at h2
   obtain rfl:i=reals.length:=by omega
   rw [Qzr (Nat.le_refl _)] at hx
   simp at hx
   rw [Qzr (by rw [h.len];exact Nat.le_refl _),h.len]
   refine ⟨by omega,_,by simp;rfl,?_⟩
   cases b with
   | true=>exact .inl rfl
   | false =>
    have:=(Xb1 x (by omega) e he).2
    rw [← hx,hn] at this
    rw [← hx,hn]
    exact .inr ⟨by simp;omega,by simpa using this⟩
 ·rcases Qzn (i+1) reals.length with h1 | h1
  ·rw [Qzl (by omega)] at hx
   rw [Qzl h1] at hy
   exact h.near i x y hx hy
  ·have h2:=(Qzs.1 hy).1
   simp at h2
   have e2:reals.length=i+1:=by omega
   rw [Qzr h1] at hy
   simp [e2] at hy
   rw [Qzl (by omega)] at hx
   have hl:=h.last x (by rw [List.getLast?_eq_getElem?,e2];exact hx)
   have:=(Xb1 W hw8 d hd).1
   rw [← hy,hn,hl,hW]
   exact this
 ·simp at hx
  rw [← hx];exact hn
def Md3 (l:List UInt8) (d:Nat) (σ:Za) (hs ns n:Nat) (HE:AV) (env:Env) (σ':Za):Prop:=∃ (u:List AV) (i:Nat) (w:Int) (v1 v2:AV) (reals:List Nat) (reads:List Int) (g:Za) (o1 o2:Option Nat) (a:Nat) (c:Int),env={ t:=u }∧u.length=112∧tg u 0=.ptr d 0∧tg u 10=.ptr σ.length 0∧tg u 12=.ptr (σ.length+1) 0∧tg u 15=.int .i64 w∧tg u 16=v1∧tg u 57=.int .i64 n∧tg u 58=.int .i64 i∧i≤n ∧
 σ'=(σ.set d (Yc l a c)++[zBk])++(.cells [.int .i64 hs,.int .i64 ns,HE,v2,.nils]::g)∧a≤l.length∧Acc (σ++[zBk,zBk]) g 1 v1 (Ya (reals.map fun (x:Nat)=>(x:Int))) o1∧Acc (σ++[zBk,zBk]) g 1 v2 (Ya reads) o2∧(∀ j,o1=some j→o2≠some j)∧reals.length=i∧Rd reals reads w
def Xgb (hs ns nh st:Nat) (c:Cr):Prop:=(0≤c.hour∧c.hour<(nh:Int))∧(0≤c.stand∧c.stand<(st:Int))∧0≤c.notice∧c.notice<(ns:Int)
def Md5 (l:List UInt8) (d:Nat) (σ:Za) (hs ns:Nat) (H:List (List (List Int))) (reals:List Nat) (reads:List Int) (n:Nat) (env:Env) (σ':Za):Prop:=∃ (u:List AV) (i:Nat) (v:AV) (cs:List Cr) (g:Za) (o:Option Nat) (a:Nat) (c:Int),env={ t:=u }∧u.length=112∧tg u 0=.ptr d 0∧tg u 10=.ptr σ.length 0∧tg u 12=.ptr (σ.length+1) 0∧tg u 16=.pl 1 (Ya (reals.map fun (x:Nat)=>(x:Int)))∧tg u 84=.int .i64 n∧tg u 85=.int .i64 i∧i≤n ∧
 σ'=(σ.set d (Yc l a c)++[zBk])++(.cells [.int .i64 hs,.int .i64 ns,.pl 1 (H.map Zcd),.pl 1 (Ya reads),v]::g)∧a≤l.length∧Acc (σ++[zBk,zBk]) g 3 v (cs.map Wfe) o∧cs.length=i∧∀ x∈cs,Xgb hs ns reads.length H.length x
section
variable {P:Program}
theorem Xcb {f:FuncId} {fn:Func} {c:Code} {args:List AV} {σ:Za} {R:AV→Za→Prop} (n:Nat) (I:Env→Za→Prop) (hf:P.funcs[f]? = some fn) (hb:fn.body=some c) (hen:Enters P f)
  (h1:awp P none (Yh n c).1 (Wb I (QFn P fn R)) { t:=te args fn.ntmps } σ) (h2:∀ (env:Env) (σ:Za),I env σ→ACode P none (Yh n c).2 (QFn P fn R) env σ):ACalls P f args σ R :=
 Vao hf hb hen (Xbk I h2 h1)
end
theorem Acc.kept {S g g':Za} {k:Nat} {v:AV} {L:List AV} {o o2:Option Nat} (h:Acc S g k v L o2) (hk:∀ j,some j≠o→j<g.length→g'[j]? = g[j]?) (ho:∀ j,o=some j→o2≠some j):Acc S g' k v L o2:=⟨h.len,by
 have hv:=h.val
 cases o2 with
 | none=>exact hv
 | some j =>
  refine ⟨hv.1,?_⟩
  have h2:=hv.2
  rw [hk j (fun e=>ho j e.symm rfl) (Qzs.1 h2).1]
  exact h2⟩
theorem Ue7 {S g:Za} {v:AV} {L:List Int} {o:Option Nat} (hA:Acc S g 1 v (Ya L) o) (x:Int) (hl:L.length≤2^30) :
  ∃ v' g' jo,Xa Tryz.prog #[32,32] v (.pl 1 [.int .i64 x]) (S++g)=some (v',S++g')∧Acc S g' 1 v' (Ya (L++[x])) (some jo)∧v'=.arr 1 (S.length+jo) 0 (L.length+1)∧(∀ j,some j≠o→j<g.length→g'[j]? = g[j]?)∧(some jo=o∨jo=g.length):=by
 obtain ⟨v',g',o',he,hA',hlen,hkeep,ho⟩:=hA.app (P:=Tryz.prog) (t:=32) (e:=3) (ag:=false) (ys:=[.int .i64 x]) (y:=.pl 1 [.int .i64 x]) (by simp) (by simp) (by simp) (by omega) (fun y hy=>by
  rw [List.mem_singleton.1 hy]
  exact ⟨rfl,by simp [AV.cells,AV.one]⟩) (by simp [AV.cells]) (by simp [Ya];omega)
 have e:Ya L++[.int .i64 x]=Ya (L++[x]):=by simp [Ya]
 rw [e] at hA'
 obtain ⟨jo,rfl⟩:∃ jo,o'=some jo:=by
  cases o' with
  | none=>exact absurd hA'.val.2 (by simp [Ya])
  | some jo=>exact ⟨jo,rfl⟩
 refine ⟨v',g',jo,he,hA',by rw [hA'.val.1];simp [Ya],hkeep,?_⟩
 rcases ho with h | h
 ·exact .inl h
 ·exact .inr (by simpa using h)
theorem Rd.fits {hs ns:Int} {H:List (List (List Int))} {reals:List Nat} {reads:List Int} {w:Int} {cs:List Cr} (h:Rd reals reads w):Fits ⟨hs,ns,H,reads,cs⟩ reals:=by
 refine ⟨h.len,fun i x hx=>?_,h.near⟩
 obtain ⟨h1,y,h2,h3⟩:=h.lt i x hx
 refine ⟨h1,?_⟩
 unfold Xbm
 simp only [h2]
 rcases h3 with rfl | ⟨_,h3⟩
 ·simp
 ·simp [h3]
attribute [local irreducible] aws awp aw1 Og Om Oc Oa Ogd Ov Ot awd Ua awh Xb Ogh Ohd awl Ogl Ohl awv Ogv Ohv Wb Vb QFn Zc QRo QBe ACode AYield
end Ab
namespace Ab
open Go Go.RowKit Go.Proofs
theorem Ybc {n:Nat} {a b:Code}:(Yh (n+1) (.seq a b)).2=(Yh n b).2:=rfl
theorem Xbn {c:Code}:(Yh 0 c).2=c:=by cases c<;>rfl
end Ab
namespace Ab
open Go Go.RowKit Go.Proofs
attribute [local irreducible] aws awp aw1 Og Om Oc Oa Ogd Ov Ot awd Ua awh Xb Ogh Ohd awl Ogl Ohl awv Ogv Ohv Wb Vb QFn Zc QRo QBe ACode AYield
end Ab
namespace Ab
open Go Go.RowKit Go.Proofs
def Xaj (t:Tab):List AV:=(List.range 40).map fun k=>.int .i64 (t (k / 5) (k % 5))
def rowT (t:Tab) (s:Nat):List Int:=(List.range 5).map (t s)
theorem Wag {n:Nat} {σ:Za} {r off:Nat} {cs:List AV} {l:List Int} (hn:n≤r) (hr:σ[r]? = some (.cells cs)) (h:∀ (i:Nat) (x:Int),l[i]? = some x→cs[off+i]? = some (.int .i64 x)):Fz n σ (.arr 1 r off l.length) (.pl 1 (Ya l)):=by
 have e:l.length=(Ya l).length:=by simp [Ya]
 rw [e]
 refine .arr 1 _ off cs (Ya l) (fun i _=>.int .i64 ((l[i]?).getD 0)) hn hr (fun i x hx=>?_) fun i x hx j y hy=>?_
 ·unfold Ya at hx
  rw [Qzp,Qzm] at hx
  obtain ⟨z,hz,rfl⟩:=hx
  refine ⟨rfl,fun j y hy=>?_⟩
  cases j with
  | zero =>
   simp [AV.cells] at hy
   subst hy
   exact ⟨rfl,by rw [show (off+i)*1+0=off+i by omega,h i z hz,hz];rfl⟩
  | succ j=>simp [AV.cells] at hy
 ·unfold Ya at hx
  rw [Qzp,Qzm] at hx
  obtain ⟨z,hz,rfl⟩:=hx
  cases j with
  | zero =>
   simp [AV.cells] at hy
   subst hy
   rw [hz]
   exact .int _ _
  | succ j=>simp [AV.cells] at hy
def Xih (t:Tab) (s:Nat) (n:Int):Int:=Wz (rowT t s) fun x=>decide (n=x)
attribute [local irreducible] aws awp aw1 Og Om Oc Oa Ogd Ov Ot awd Ua awh Xb Ogh Ohd awl Ogl Ohl awv Ogv Ohv Wb Vb QFn Zc QRo QBe Yf Yg ACode AYield
end Ab
namespace Ab
open Go Go.RowKit Go.Proofs
def Yaz (e:Ent):AV:=.agg [.int .i64 e.1,.int .i64 e.2.1,.int .i64 e.2.2]
theorem View.dropS (S g:Za):View (fun r=>decide (S.length≤r)) (S++g) (S++g.map fun _=>AObj.dead):=by
 refine ⟨by simp,fun r o' ho hlv=>?_⟩
 rcases Qzn r S.length with h | h
 ·rw [Qzl h] at ho
  exact ⟨by simp;omega,o',by rw [Qzl h];exact ho,hlv,.inl rfl⟩
 ·rw [Qzr h,Qzp,Qzm] at ho
  obtain ⟨x,_,rfl⟩:=ho
  cases hlv
def Yin (v:AV):Nat:=match v with
 | .arr _ _ _ n=>11 - n
 | _=>11
def TuA (t:Tab) (σ:Za) (q a b man:Nat) (env:Env) (σ':Za):Prop:=∃ (u:List AV) (C:List Nat) (E:List Ent) (cur:Int) (v:AV) (g:Za) (o:Option Nat),env={ t:=u }∧u.length=89∧tg u 0=.ptr q 0∧tg u 1=.int .i64 cur∧tg u 2=.int .i64 a∧tg u 3=.int .i64 b∧tg u 8=v∧σ'=σ++g∧Acc σ g 3 v (E.map Yaz) o∧ChInv t a b man C E cur∧E.length≤2*C.length
def TuB (t:Tab) (σ:Za) (q a b:Nat) (E:List Ent) (env:Env) (σ':Za):Prop:=∃ (u:List AV) (i:Nat) (g:Za),env={ t:=u }∧u.length=89∧tg u 0=.ptr q 0∧tg u 2=.int .i64 a∧tg u 3=.int .i64 b∧tg u 8=.pl 3 (E.map Yaz)∧tg u 53=.pl 3 (E.map Yaz)∧tg u 54=.int .i64 E.length∧tg u 55=.int .i64 i∧i≤E.length∧σ'=σ.set q (.cells (Xaj (Ubu (E.take i) t)))++g
def TuC (t:Tab) (σ:Za) (q a b:Nat) (E:List Ent) (env:Env) (σ':Za):Prop:=∃ (u:List AV) (i:Nat) (g:Za),env={ t:=u }∧u.length=89∧tg u 0=.ptr q 0∧tg u 2=.int .i64 a∧tg u 3=.int .i64 b∧tg u 68=.pl 3 (E.map Yaz)∧tg u 69=.int .i64 E.length∧tg u 70=.int .i64 i∧i≤E.length∧σ'=σ.set q (.cells (Xaj (Uer a b (E.take i) (Ubu E t))))++g
attribute [local irreducible] aws awp aw1 Og Om Oc Oa Ogd Ov Ot awd Ua awh Xb Ogh Ohd awl Ogl Ohl awv Ogv Ohv Wb Vb QFn Zc QRo QBe Yf Yg ACode AYield
end Ab
namespace Ab
open Go Go.RowKit Go.Proofs
def LaA (t:Tab) (W:Za) (L:Nat) (n:Int) (slots s0:Nat) (env:Env) (σ':Za):Prop:=∃ (u:List AV) (a:Nat),env={ t:=u,m:=[L+6] }∧u.length=54∧tg u 3=.int .i64 slots∧tg u 4=.ptr L 0∧tg u 5=.ptr (L+1) 0∧tg u 6=.ptr (L+2) 0∧tg u 9=.int .i64 a∧tg u 10=.ptr (L+8) 0∧a≤s0∧σ'=W++[.dead,.cells [.int .i64 0]]
theorem Xgv {P:Program} {fn:Func} {R:AV→Za→Prop} {env:Env} {σ:Za}:Vg P fn R .ret env σ=Yac P fn R env env.m σ:=rfl
attribute [local irreducible] aws awp aw1 Og Om Oc Oa Ogd Ov Ot awd Ua awh Xb Ogh Ohd awl Ogl Ohl awv Ogv Ohv Wb Vb QFn Zc Vg QRo QBe Yf Yg ACode AYield
end Ab
namespace Ab
open Go Go.RowKit Go.Proofs
def Xl (men:Nat) (N:List (Nat × Int)):List Int:=(List.range men).map fun m=>((N.filter fun p=>p.1 == m).length:Int)
theorem Wep (men:Nat) (S:List (List Int)):Xl men (shP S)=Zs men S:=rfl
theorem Va5 (men:Nat) (N:List (Nat × Int)):(Xl men N).length=men:=by simp [Xl]
theorem Xht (men:Nat) (N:List (Nat × Int)) (m:Nat) (n:Int) (hm:m<men):(Xl men N).set m ((Xl men N)[m]'(by rw [Va5];exact hm)+1)=Xl men (N++[(m,n)]):=by
 apply List.ext_getElem?
 intro k
 rw [List.getElem?_set]
 unfold Xl
 by_cases hk:m=k
 ·subst hk
  simp [hm]
 ·rw [if_neg hk,Qzp,Qzp]
  rcases Qzn k men with h | h
  ·rw [List.getElem?_range h]
   simp [List.filter_append,hk]
  ·rw [List.getElem?_eq_none (by simpa using h)]
   rfl
theorem Ye4 {S:List (List Int)} {i:Nat} {l:List Int} (h:S[i]? = some l):shP (S.take (i+1))=shP (S.take i)++Ui i l:=by
 obtain ⟨hi,e⟩:=Qzs.1 h
 rw [Qzt hi,e,Vbt]
 simp
 rw [Nat.min_eq_left (by omega)]
theorem Uhj {i j:Nat} {l:List Int} {m:Int} (h:l[j]? = some m):Ui i (l.take (j+1))=Ui i (l.take j)++[(m.toNat,(i:Int))]:=by
 obtain ⟨hj,e⟩:=Qzs.1 h
 rw [Qzt hj,e,Uge]
theorem Vcy (l:List Int) (x:Int):grt (l++[x])=if grt l<x then x else grt l:=by unfold grt;rw [List.foldl_append];rfl
def LdA (r:Rl) (S:List (List Int)) (men:Nat) (σ:Za) (env:Env) (σ':Za):Prop:=∃ (u:List AV) (i:Nat),env={ t:=u }∧u.length=34∧tg u 5=.arr 1 (σ.length+1) 0 men∧tg u 13=.pl 1 (S.map fun x=>.pl 1 (Ya x))∧tg u 14=.int .i64 S.length∧tg u 15=.int .i64 i∧i≤S.length∧σ'=σ++[.cells [.int .i64 men,.pl 2 (r.ntcs.map Ub)],.cells (Ya (Xl men (shP (S.take i))))]
def LdB (r:Rl) (S:List (List Int)) (men:Nat) (σ:Za) (i:Nat) (l:List Int) (env:Env) (σ':Za):Prop:=∃ (u:List AV) (j:Nat),env={ t:=u }∧u.length=34∧tg u 5=.arr 1 (σ.length+1) 0 men∧tg u 13=.pl 1 (S.map fun x=>.pl 1 (Ya x))∧tg u 14=.int .i64 S.length∧tg u 15=.int .i64 i∧tg u 19=.pl 1 (Ya l)∧tg u 20=.int .i64 l.length∧tg u 21=.int .i64 j∧j≤l.length∧σ'=σ++[.cells [.int .i64 men,.pl 2 (r.ntcs.map Ub)],.cells (Ya (Xl men (shP (S.take i)++Ui i (l.take j))))]
attribute [local irreducible] aws awp aw1 Og Om Oc Oa Ogd Ov Ot awd Ua awh Xb Ogh Ohd awl Ogl Ohl awv Ogv Ohv Wb Vb QFn Zc Vg QRo QBe Yf Yg ACode AYield
theorem Ycd (l:List Int) (hl:l.length≤2^40):APure Tryz.prog 161 [.pl 1 (Ya l)] (.int .i64 (grt l)):=by
 intro σ
 refine Yb Tryz.func161 rfl (Zb Tryz.func161 (by decide) rfl) ?_
 simp [Tryz.ntmps161]
 refine Wd (fun env σ'=>∃ (u:List AV) (i:Nat),env={ t:=u }∧u.length=17∧tg u 3=.int .i64 (grt (l.take i))∧tg u 6=.pl 1 (Ya l)∧tg u 7=.int .i64 l.length∧tg u 8=.int .i64 i∧σ'=σ∧i≤l.length)
  (fun env _=>match tg env.t 8 with | .int _ i=>l.length - i.toNat | _=>0) ⟨_,0,rfl,by simp,by simp [grt],by simp,by simp [Ya],by simp,rfl,by omega⟩ ?_
 rintro env σ' ⟨u,i,rfl,hl0,g3,g6,g7,g8,rfl,hi⟩
 rcases Qzn i l.length with hlt | hge
 ·have hlt':(i:Int)<(l.length:Int):=by omega
  have hw1:=w64 (n:=(i:Int)+1) (by omega) (by omega)
  have hil:i<(Ya l).length:=by simpa [Ya] using hlt
  have hx':(Ya l)[i]=.int .i64 l[i]:=by simp [Ya]
  have hsuc:grt (l.take (i+1))=if grt (l.take i)<l[i] then l[i] else grt (l.take i):=by rw [Qzt hlt,Vcy]
  obtain ⟨n,hn⟩:∃ n,grt (l.take i)=n:=⟨_,rfl⟩
  rw [hn] at g3 hsuc
  obtain ⟨x,hx⟩:∃ x,l[i]=x:=⟨_,rfl⟩
  rw [hx] at hx' hsuc
  simp [hl0,g3,g6,g7,g8,hlt',hlt,hil,hx',hw1]
  exact ⟨⟨i+1,by rw [hsuc],by simp,hlt⟩,by omega⟩
 ·have hge':¬ (i:Int)<(l.length:Int):=by omega
  rw [List.take_of_length_le hge] at g3
  simp [hl0,g3,g6,g7,g8,hge']
theorem Ugz {f:Nat} {w v:AV} {n:Int} {σ:Za} (h:APure Tryz.prog f [w] (.int .i64 n)) (hz:Fz 0 σ v w):ACalls Tryz.prog f [v] σ fun v' s=>v'=.int .i64 n∧s=σ :=
 APure.lend h rfl (fun i x y hx hy=>by
  match i,hx,hy with
  | 0,hx,hy=>simp at hx hy;subst hx;subst hy;exact hz
  | i+1,hx,hy=>simp at hx) fun C C' c hv=>by cases hv;exact .int _ _
theorem Veg {σ g:Za} {v:AV} {l:List Int} {o:Option Nat} (h:Acc σ g 1 v (Ya l) o):Fz 0 (σ++g) v (.pl 1 (Ya l)):=by
 have hv:=h.val
 cases o with
 | none =>
  obtain ⟨rfl,e⟩:=hv
  rw [e]
  exact .nils_pl 1
 | some jo =>
  obtain ⟨rfl,hjo⟩:=hv
  rw [Vy (fun y hy=>by obtain ⟨z,_,rfl⟩:=List.mem_map.1 hy;rfl)] at hjo
  have hl:(Ya l).length=l.length:=by simp [Ya]
  rw [hl]
  refine Wag (cs:=Ya l) (Nat.zero_le _) (by rw [Qzr (by omega),Nat.add_sub_cancel_left];exact hjo) fun i x hx=>?_
  unfold Ya
  rw [Nat.zero_add,Qzp,hx]
  rfl
theorem Ua9 {S g:Za} {v:AV} {L:List Int} {o:Option Nat} (hA:Acc S g 1 v (Ya L) o) (x:Int) (hl:L.length≤2^30) :
  ∃ v' g' jo,Xa Tryz.prog #[32,32] v (.arr 1 (S.length+g.length) 0 1) (S++(g++[.cells [.int .i64 x]]))=some (v',S++g')∧Acc S g' 1 v' (Ya (L++[x])) (some jo)∧v'=.arr 1 (S.length+jo) 0 (L.length+1)∧(∀ j,some j≠o→j<g.length→g'[j]? = g[j]?)∧(some jo=o∨g.length≤jo):=by
 obtain ⟨v',g',o',he,hA',hlen,hkeep,ho⟩:=hA.push (P:=Tryz.prog) (t:=32) (e:=3) (ag:=false) (x:=.int .i64 x) (by simp) (by simp) (by simp) (by omega) ⟨by simp [AV.cells],by simp [AV.cells,AV.one]⟩ (by simp [Ya];omega)
 have e:Ya L++[.int .i64 x]=Ya (L++[x]):=by simp [Ya]
 rw [e] at hA'
 obtain ⟨jo,rfl⟩:∃ jo,o'=some jo:=by
  cases o' with
  | none=>exact absurd hA'.val.2 (by simp [Ya])
  | some jo=>exact ⟨jo,rfl⟩
 refine ⟨v',g',jo,by simpa [-Xa] using he,hA',by rw [hA'.val.1];simp [Ya],hkeep,?_⟩
 rcases ho with h | ⟨m,h1,h⟩
 ·exact .inl h
 ·exact .inr (by simp at h;omega)
theorem Zgh (r:Rl) (h:r.Ok):APure Tryz.prog 162 [Ug r] (.int .i64 (grt (r.ntcs.map Ntc.times))):=by
 refine APure.of fun σ=>?_
 refine Yb Tryz.func162 rfl (Zb Tryz.func162 (by decide) rfl) ?_
 have:=h.few
 simp [-Xa,Tryz.ntmps162,Ug]
 refine Wd (fun env σ'=>∃ (u:List AV) (i:Nat) (v:AV) (g:Za) (o:Option Nat),env={ t:=u }∧u.length=21∧tg u 3=v∧tg u 7=.pl 2 (r.ntcs.map Ub)∧tg u 8=.int .i64 r.ntcs.length∧tg u 9=.int .i64 i∧σ'=σ++g∧i≤r.ntcs.length∧Acc σ g 1 v (Ya ((r.ntcs.take i).map Ntc.times)) o)
  (fun env _=>match tg env.t 9 with | .int _ i=>r.ntcs.length - i.toNat | _=>0) ⟨_,0,.nils,[.cells [.int .i64 r.men,.pl 2 (r.ntcs.map Ub)]],none,rfl,by simp,by simp,by simp,by simp,by simp,rfl,by omega,by simpa [Ya] using Acc.nil _ _ _⟩ ?_
 rintro env σ' ⟨u,i,v,g,o,rfl,hl0,g3,g7,g8,g9,rfl,hi,hA⟩
 rcases Qzn i r.ntcs.length with hlt | hge
 ·have hlt':(i:Int)<(r.ntcs.length:Int):=by omega
  have hw1:=w64 (n:=(i:Int)+1) (by omega) (by omega)
  obtain ⟨n,hn⟩:∃ n,r.ntcs[i]=n:=⟨_,rfl⟩
  have hsuc:(r.ntcs.take (i+1)).map Ntc.times=(r.ntcs.take i).map Ntc.times++[n.times]:=by rw [Qzt hlt,hn];simp
  obtain ⟨v',g',jo,he,hA',hv',_,_⟩:=Ua9 (hA.more [.cells [.int .i64 n.times,.pl 1 (Ya n.men)]]) n.times (by simp;omega)
  simp [-Xa] at he
  rw [← Nat.add_assoc] at he
  rw [← hsuc] at hA'
  simp [-Xa,-List.map_take,hl0,g3,g7,g8,g9,hlt',hlt,hn,Ub,hw1]
  rw [he,Wl]
  exact ⟨⟨i+1,by simp,g',rfl,hlt,_,hA'⟩,by omega⟩
 ·obtain rfl:i=r.ntcs.length:=by omega
  rw [List.take_of_length_le (Nat.le_refl _)] at hA
  simp [-Xa,hl0,g3,g7,g8,g9]
  refine StA.of ((Ugz (Ycd _ (by simp;omega)) (Veg hA)).mono ?_)
  rintro v' s ⟨rfl,rfl⟩
  simp [-Xa,hl0]
theorem Xch (r:Rl) (S:List (List Int)) (h:r.Ok) (hs:ShOk r S):APure Tryz.prog 80 [Ug r,Uj S] (.pl 1 (Ya (Zs r.men.toNat S))):=by
 refine APure.of fun σ=>?_
 refine Yb Tryz.func80 rfl (Zb Tryz.func80 (by decide) rfl) ?_
 have:=h.few
 have hm1:=h.m1
 have hm5:=h.m5
 have hlen:=hs.len
 obtain ⟨men,hmen⟩:∃ men:Nat,r.men=men:=⟨r.men.toNat,by omega⟩
 have htn:r.men.toNat=men:=by omega
 rw [htn]
 have hmax:(men:Int)*8≤281474976710656∧(men:Int)≤9223372036854775807:=by omega
 have hzero:List.replicate men (AV.int .i64 0)=Ya (Xl men []):=by
  apply List.ext_getElem?
  intro k
  simp [Ya,Xl]
  rcases Qzn k men with h | h
  ·rw [List.getElem?_replicate,if_pos h,List.getElem?_range h];rfl
  ·rw [List.getElem?_eq_none (by simpa using h),List.getElem?_eq_none (by simpa using h)];rfl
 simp [-Xa,Tryz.ntmps80,Ug,Uj,hmen,hmax,hzero]
 refine Wd (LdA r S men σ) (fun env _=>match tg env.t 15 with | .int _ i=>S.length - i.toNat | _=>0) ⟨_,0,rfl,by simp,by simp,by simp,by simp,by simp,by omega,by simp [shP]⟩ ?_
 rintro env _ ⟨u,i,rfl,hl,g5,g13,g14,g15,hi,rfl⟩
 rcases Qzn i S.length with hlt | hge
 ·have hlt':(i:Int)<(S.length:Int):=by omega
  have hx:=w64 (n:=(i:Int)+1) (by omega) (by omega)
  obtain ⟨l,hli⟩:∃ l,S[i]=l:=⟨_,rfl⟩
  have hl':S[i]? = some l:=by rw [Qze hlt,hli]
  obtain ⟨n,hn,ok,h1,h2,h3⟩:=hs.mem h hl'
  have hll:l.length≤5:=Wam h2 fun x hx=>by have:=h3 x hx;omega
  simp [-Xa,hl,g5,g13,g14,g15,hlt,hlt',hli]
  refine Wd (LdB r S men σ i l) (fun env _=>match tg env.t 21 with | .int _ j=>l.length - j.toNat | _=>0) ⟨_,0,rfl,by simp [hl],by simp [hl,g5],by simp [hl,g13],by simp [hl,g14],by simp [hl,g15],by simp [hl],by simp [hl,Ya],by simp [hl],by omega,by simp [Ui]⟩ ?_
  clear hl g5 g13 g14 g15 u
  rintro env _ ⟨u,j,rfl,hl,g5,g13,g14,g15,g19,g20,g21,hj,rfl⟩
  rcases Qzn j l.length with hlt2 | hge2
  ·have hlt2':(j:Int)<(l.length:Int):=by omega
   have hx2:=w64 (n:=(j:Int)+1) (by omega) (by omega)
   obtain ⟨m,hmj⟩:∃ m,l[j]=m:=⟨_,rfl⟩
   have hm':l[j]? = some m:=by rw [Qze hlt2,hmj]
   have hmm:=(h3 m (Qzg hm')).2
   obtain ⟨m,rfl⟩:∃ k:Nat,m=k:=⟨m.toNat,by omega⟩
   have hmen':m<men:=by omega
   obtain ⟨N,hN⟩:∃ N,shP (S.take i)++Ui i (l.take j)=N:=⟨_,rfl⟩
   have hN1:shP (S.take i)++Ui i (l.take (j+1))=N++[(m,(i:Int))]:=by rw [Uhj hm',← List.append_assoc,hN];simp
   have hsn:=Xht men N m (i:Int) hmen'
   obtain ⟨c,hc⟩:∃ c,(Xl men N)[m]'(by rw [Va5];exact hmen')=c:=⟨_,rfl⟩
   rw [hc] at hsn
   have hcb:0≤c∧c≤40:=by
    obtain ⟨C,hC⟩:=(⟨hl',hm',rfl⟩:Pre S i j l (m:Int) (shP (S.take i)++Ui i (l.take j))).split
    rw [hN] at hC
    have hcc:c=((N.filter fun p=>p.1 == m).length:Int):=by rw [← hc];simp [Xl]
    have hle:=Ugi m S.length S rfl fun l hl=>by
     obtain ⟨i,hi⟩:=List.getElem?_of_mem hl
     obtain ⟨n,_,_,_,h4,h5⟩:=hs.mem h hi
     exact ⟨h4,fun x hx=>(h5 x hx).2.1⟩
    unfold Uah at hle
    rw [hC,List.filter_append,List.length_append] at hle
    omega
   have hx3:=w64 (n:=c+1) (by omega) (by omega)
   have hmi:m<(Ya (Xl men N)).length:=by simp [Ya,Va5];exact hmen'
   have hmg:(Ya (Xl men N))[m]? = some (.int .i64 c):=by rw [Qze hmi];simp [Ya,hc]
   have hm1:m+1≤men:=hmen'
   have hset:List.take m (Ya (Xl men N))++.int .i64 (c+1)::List.drop (m+1) (Ya (Xl men N))=Ya (Xl men (N++[(m,(i:Int))])):=by
    rw [← hsn]
    have e1:(Ya (Xl men N)).set m (.int .i64 (c+1))=List.take m (Ya (Xl men N))++.int .i64 (c+1)::List.drop (m+1) (Ya (Xl men N)):=by rw [List.set_eq_take_append_cons_drop,if_pos hmi]
    rw [← e1]
    unfold Ya
    rw [List.map_set]
   have hil:j<(Ya l).length:=by simpa [Ya] using hlt2
   have hx':(Ya l)[j]=.int .i64 m:=by simp [Ya,hmj]
   have hll2:(Ya (Xl men N)).length=men:=by simp [Ya,Va5]
   have hml:(m:Int)<(men:Int):=by omega
   rw [hN]
   simp [-Xa,hl,g5,g13,g14,g15,g19,g20,g21,hlt2,hlt2',hil,hx',hll2,hml,hmg,hx3,hm1,hx2]
   rw [hset]
   exact ⟨⟨_,j+1,rfl,by simp [hl],by simp [hl,g5],by simp [hl,g13],by simp [hl,g14],by simp [hl,g15],by simp [hl,g19],by simp [hl,g20],by simp [hl],hlt2,by rw [hN1]⟩,by omega⟩
  ·obtain rfl:j=l.length:=by omega
   simp [-Xa,hl,g5,g13,g14,g15,g19,g20,g21,hx]
   exact ⟨⟨_,i+1,rfl,by simp [hl],by simp [hl,g5],by simp [hl,g13],by simp [hl,g14],by simp [hl],hlt,by rw [Ye4 hl']⟩,by omega⟩
 ·obtain rfl:i=S.length:=by omega
  simp [-Xa,hl,g5,g13,g14,g15]
  have hll2:(Zs men S).length=men:=by simp [Zs]
  have:=Wag (n:=σ.length) (σ:=σ++[AObj.cells [.int .i64 men,.pl 2 (r.ntcs.map Ub)],.cells (Ya (Xl men (shP S)))]) (r:=σ.length+1) (off:=0) (cs:=Ya (Xl men (shP S))) (l:=Zs men S) (by omega) (by simp) fun i x hx=>by
   unfold Ya
   rw [Nat.zero_add,Qzp,Wep,hx]
   rfl
  rw [hll2] at this
  exact this
end Ab

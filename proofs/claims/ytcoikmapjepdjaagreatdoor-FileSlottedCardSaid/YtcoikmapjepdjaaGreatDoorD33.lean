/-
  Texts packed for a claim.
-/
import Derived.Test.YtcoikmapjepdjaaGreatDoorD00
import Derived.Test.YtcoikmapjepdjaaGreatDoorD32
import Derived.Test.YtcoikmapjepdjaaGreatDoorD30
set_option linter.all false
namespace Ab
open Go Go.RowKit Go.Proofs
def MdP (n:Nat) (o:Option Nat) (r:Nat):Bool:=decide (n≤r)&&decide (o≠some (r - n))
theorem Zad {L:List AV} (h:∀ y∈L,y.cells=[y]):L.flatMap AV.cells=L:=by
 induction L with
 | nil=>rfl
 | cons x L ih=>rw [List.flatMap_cons,ih fun y hy=>h y (by simp [hy]),h x (by simp)];rfl
theorem View.acc {S g:Za} {v:AV} {L L':List AV} {o:Option Nat} (hA:Acc S g 1 v L o) (hl:L'.length=L.length) (h0:∀ y∈L,y.cells=[y]) (h1:∀ y∈L',y.one=true∧y.cells=[y])
  (hz:∀ (i:Nat) (x y:AV),L[i]? = some x→L'[i]? = some y→Vw (MdP S.length o) (S++g) x y):∃ g',g'.length=g.length∧View (MdP S.length o) (S++g) (S++g')∧Acc S g' 1 v L' o:=by
 refine ⟨g.mapIdx fun j _=>if o=some j then .cells L' else .dead,by simp,⟨by simp,fun r o' ho hlv=>?_⟩,⟨fun x hx=>⟨by rw [(h1 x hx).2];rfl,fun y hy=>by rw [(h1 x hx).2,List.mem_singleton] at hy;rw [hy];exact (h1 x hx).1⟩,?_⟩⟩
 ·rcases Qzn r S.length with h | h
  ·rw [Qzl h] at ho
   exact ⟨by unfold MdP;simp;omega,o',by rw [Qzl h];exact ho,hlv,.inl rfl⟩
  ·rw [Qzr h,List.getElem?_mapIdx,Qzm] at ho
   obtain ⟨x,hx,rfl⟩:=ho
   split at hlv
   ·rename_i e
    subst e
    have hv:=hA.val
    rw [Zad h0] at hv
    refine ⟨by unfold MdP;simp,.cells L,by rw [Qzr h];exact hv.2,rfl,.inr ⟨L,L',rfl,by rw [if_pos rfl],hl,hz⟩⟩
   ·cases hlv
 ·have hv:=hA.val
  cases o with
  | none=>exact ⟨hv.1,List.eq_nil_of_length_eq_zero (by rw [hl,hv.2];rfl)⟩
  | some j =>
   refine ⟨by rw [hv.1,hl],?_⟩
   have hj:=(Qzs.1 hv.2).1
   rw [List.getElem?_mapIdx,Qze hj,Zad fun y hy=>(h1 y hy).2]
   simp
def zBk:AObj:=.cells [.int .i64 0,.int .i64 0,.nils,.nils,.nils]
def Vck (hs:Nat) (w:List Int):Prop:=w.Nodup∧(∀ y∈w,0≤y∧y<(hs:Int))∧w.length≤hs
def Md1 (l:List UInt8) (d:Nat) (σ:Za) (hs ns n:Nat) (env:Env) (σ':Za):Prop:=∃ (u:List AV) (i:Nat) (v:AV) (L:List AV) (H:List (List (List Int))) (g:Za) (o:Option Nat) (a:Nat) (c:Int),env={ t:=u }∧u.length=112∧tg u 0=.ptr d 0∧tg u 4=.int .i64 5∧tg u 10=.ptr σ.length 0∧tg u 12=.ptr (σ.length+1) 0∧tg u 27=.int .i64 n∧tg u 28=.int .i64 i∧i≤n ∧
 σ'=(σ.set d (Xd l a c)++[zBk])++(.cells [.int .i64 hs,.int .i64 ns,v,.nils,.nils]::g)∧a≤l.length∧Acc (σ++[zBk,zBk]) g 1 v L o∧H.length=i∧L.length=i∧(∀ y∈L,y.cells=[y])∧(∀ x∈H,x.length=8∧∀ w∈x,Vck hs w) ∧
 ∀ (j:Nat) (x y:AV),L[j]? = some x→(H.map Ub6)[j]? = some y→Vw (MdP (σ.length+2) o) σ' x y
def Md2 (l:List UInt8) (d:Nat) (σ:Za) (hs ns n i:Nat) (v:AV) (gH:Za) (env:Env) (σ':Za):Prop:=∃ (u:List AV) (k:Nat) (w:AV) (W:List (List Int)) (g:Za) (o:Option Nat) (a:Nat) (c:Int),env={ t:=u }∧u.length=112∧tg u 0=.ptr d 0∧tg u 4=.int .i64 5∧tg u 10=.ptr σ.length 0∧tg u 12=.ptr (σ.length+1) 0∧tg u 27=.int .i64 n∧tg u 28=.int .i64 i∧tg u 13=w∧tg u 30=.int .i64 k∧k≤8 ∧
 σ'=(σ.set d (Xd l a c)++[zBk])++(.cells [.int .i64 hs,.int .i64 ns,v,.nils,.nils]::(gH++g))∧a≤l.length∧Acc (σ++[zBk,zBk]++gH) g 1 w (W.map Vb1) o∧W.length=k∧∀ w∈W,Vck hs w
structure Rd (reals:List Nat) (reads:List Int) (w:Int):Prop where
 len:reals.length=reads.length
 lt:∀ (h x:Nat),reals[h]? = some x→x<8∧∃ y,reads[h]? = some y∧(y=-1∨(0≤y∧y≤7)∧Zai x y=true)
 near:∀ (h x y:Nat),reals[h]? = some x→reals[h+1]? = some y→Zai y x=true
 last:∀ x:Nat,reals.getLast? = some x→(x:Int)=w
 w:0≤w∧w≤7
theorem Rd.nil {w:Int} (hw:0≤w∧w≤7):Rd [] [] w:=⟨rfl,fun h x e=>by simp at e,fun h x y e=>by simp at e,fun x e=>by simp at e,hw⟩
theorem Rd.snoc {reals:List Nat} {reads:List Int} {w:Int} (h:Rd reals reads w) {d:Int} (hd:d=-1∨d=0∨d=1) {e:Int} (he:e=-1∨e=0∨e=1) (b:Bool) :
  Rd (reals++[((w+d) % 8).toNat]) (reads++[if b then -1 else ((w+d) % 8+e) % 8]) ((w+d) % 8):=by
 have hm:0≤(w+d) % 8∧(w+d) % 8≤7:=by omega
 have hn:((((w+d) % 8).toNat:Nat):Int)=(w+d) % 8:=by omega
 obtain ⟨W,hW⟩:∃ W:Nat,w=W:=⟨w.toNat,by have:=h.w;omega⟩
 have hw8:W<8:=by have:=h.w;omega
 refine ⟨by simp [h.len],fun i x hx=>?_,fun i x y hx hy=>?_,fun x hx=>?_,hm⟩
 ·rcases Qzn i reals.length with h1 | h1
  ·rw [Qzl h1] at hx
   rw [Qzl (by rw [← h.len];exact h1)]
   exact h.lt i x hx
  ·have h2:=(Qzs.1 hx).1
   simp at h2
   obtain rfl:i=reals.length:=by omega
   rw [Qzr (Nat.le_refl _)] at hx
   simp at hx
   rw [Qzr (by rw [h.len];exact Nat.le_refl _),h.len]
   refine ⟨by omega,_,by simp;rfl,?_⟩
   cases b with
   | true=>exact .inl rfl
   | false =>
    have:=(Xbo x (by omega) e he).2
    rw [← hx,hn] at this
    rw [← hx,hn]
    exact .inr ⟨by simp;omega,by simpa using this⟩
 ·rcases Qzn (i+1) reals.length with h1 | h1
  ·rw [Qzl (by omega)] at hx
   rw [Qzl h1] at hy
   exact h.near i x y hx hy
  ·have h2:=(Qzs.1 hy).1
   simp at h2
   have e2:reals.length=i+1:=by omega
   rw [Qzr h1] at hy
   simp [e2] at hy
   rw [Qzl (by omega)] at hx
   have hl:=h.last x (by rw [List.getLast?_eq_getElem?,e2];exact hx)
   have:=(Xbo W hw8 d hd).1
   rw [← hy,hn,hl,hW]
   exact this
 ·simp at hx
  rw [← hx];exact hn
def Md3 (l:List UInt8) (d:Nat) (σ:Za) (hs ns n:Nat) (HE:AV) (env:Env) (σ':Za):Prop:=∃ (u:List AV) (i:Nat) (w:Int) (v1 v2:AV) (reals:List Nat) (reads:List Int) (g:Za) (o1 o2:Option Nat) (a:Nat) (c:Int),env={ t:=u }∧u.length=112∧tg u 0=.ptr d 0∧tg u 10=.ptr σ.length 0∧tg u 12=.ptr (σ.length+1) 0∧tg u 15=.int .i64 w∧tg u 16=v1∧tg u 57=.int .i64 n∧tg u 58=.int .i64 i∧i≤n ∧
 σ'=(σ.set d (Xd l a c)++[zBk])++(.cells [.int .i64 hs,.int .i64 ns,HE,v2,.nils]::g)∧a≤l.length∧Acc (σ++[zBk,zBk]) g 1 v1 (Ya (reals.map fun (x:Nat)=>(x:Int))) o1∧Acc (σ++[zBk,zBk]) g 1 v2 (Ya reads) o2∧(∀ j,o1=some j→o2≠some j)∧reals.length=i∧Rd reals reads w
def Ygk (hs ns nh st:Nat) (c:Cr):Prop:=(0≤c.hour∧c.hour<(nh:Int))∧(0≤c.stand∧c.stand<(st:Int))∧0≤c.notice∧c.notice<(ns:Int)
def Md5 (l:List UInt8) (d:Nat) (σ:Za) (hs ns:Nat) (H:List (List (List Int))) (reals:List Nat) (reads:List Int) (n:Nat) (env:Env) (σ':Za):Prop:=∃ (u:List AV) (i:Nat) (v:AV) (cs:List Cr) (g:Za) (o:Option Nat) (a:Nat) (c:Int),env={ t:=u }∧u.length=112∧tg u 0=.ptr d 0∧tg u 10=.ptr σ.length 0∧tg u 12=.ptr (σ.length+1) 0∧tg u 16=.pl 1 (Ya (reals.map fun (x:Nat)=>(x:Int)))∧tg u 84=.int .i64 n∧tg u 85=.int .i64 i∧i≤n ∧
 σ'=(σ.set d (Xd l a c)++[zBk])++(.cells [.int .i64 hs,.int .i64 ns,.pl 1 (H.map Ub6),.pl 1 (Ya reads),v]::g)∧a≤l.length∧Acc (σ++[zBk,zBk]) g 3 v (cs.map Ufg) o∧cs.length=i∧∀ x∈cs,Ygk hs ns reads.length H.length x
theorem Wfc {n:Nat} {a b:Code}:(Xl (n+1) (.seq a b)).2=(Xl n b).2:=rfl
theorem Zfq {c:Code}:(Xl 0 c).2=c:=by cases c<;>rfl
section
variable {P:Program}
theorem Vbu {f:FuncId} {fn:Func} {c:Code} {args:List AV} {σ:Za} {R:AV→Za→Prop} (n:Nat) (I:Env→Za→Prop) (hf:P.funcs[f]? = some fn) (hb:fn.body=some c) (hen:Enters P f)
  (h1:awp P none (Xl n c).1 (Wb I (QFn P fn R)) { t:=te args fn.ntmps } σ) (h2:∀ (env:Env) (σ:Za),I env σ→ACode P none (Xl n c).2 (QFn P fn R) env σ):ACalls P f args σ R :=
 Ubk hf hb hen (Yb2 I h2 h1)
end
theorem Acc.kept {S g g':Za} {k:Nat} {v:AV} {L:List AV} {o o2:Option Nat} (h:Acc S g k v L o2) (hk:∀ j,some j≠o→j<g.length→g'[j]? = g[j]?) (ho:∀ j,o=some j→o2≠some j):Acc S g' k v L o2:=⟨h.len,by
 have hv:=h.val
 cases o2 with
 | none=>exact hv
 | some j =>
  refine ⟨hv.1,?_⟩
  have h2:=hv.2
  rw [hk j (fun e=>ho j e.symm rfl) (Qzs.1 h2).1]
  exact h2⟩
theorem Rd.fits {hs ns:Int} {H:List (List (List Int))} {reals:List Nat} {reads:List Int} {w:Int} {cs:List Cr} (h:Rd reals reads w):Fits ⟨hs,ns,H,reads,cs⟩ reals:=by
 refine ⟨h.len,fun i x hx=>?_,h.near⟩
 obtain ⟨h1,y,h2,h3⟩:=h.lt i x hx
 refine ⟨h1,?_⟩
 unfold Ubn
 simp only [h2]
 rcases h3 with rfl | ⟨_,h3⟩
 ·simp
 ·simp [h3]
attribute [local irreducible] aws awp aw1 Og Om Oc Oa Ogd Ov Ot awd Zb awh Xb Ogh Ohd awl Ogl Ohl awv Ogv Ohv Wb Vb QFn Ub QRo QBe ACode AYield
end Ab
namespace Ab
open Go Go.RowKit Go.Proofs
attribute [local irreducible] aws awp aw1 Og Om Oc Oa Ogd Ov Ot awd Zb awh Xb Ogh Ohd awl Ogl Ohl awv Ogv Ohv Wb Vb QFn Ub QRo QBe ACode AYield
theorem Acc.vwk {σ g:Za} {k:Nat} {v:AV} {l:List AV} {o:Option Nat} (h:Acc σ g k v l o) {p:Nat→Bool} (hp:∀ r,σ.length≤r→p r=true) (hk:0<k) (hf:∀ x∈l,∀ y∈x.cells,∀ S,Fz 0 S y y):Vw p (σ++g) v (.pl k l):=by
 have hv:=h.val
 cases o with
 | none =>
  obtain ⟨rfl,e⟩:=hv
  rw [e]
  exact .inr (.nils_pl k)
 | some jo =>
  obtain ⟨rfl,hjo⟩:=hv
  have hT:(σ++g)[σ.length+jo]? = some (.cells (l.flatMap AV.cells)):=by rw [Qzr (by omega),Nat.add_sub_cancel_left];exact hjo
  refine .inr (.arr k _ 0 _ l (fun i j=>(((l[i]?).getD .any).cells[j]?).getD .any) (Nat.zero_le _) (Was hT (hp _ (by omega))) (fun i x hx=>?_) fun i x hx j y hy=>?_)
  ·have hm:=Qzg hx
   refine ⟨(h.len x hm).1,fun j y hy=>⟨(h.len x hm).2 y (Qzg hy),?_⟩⟩
   have hjl:=(Qzs.1 hy).1
   rw [(h.len x hm).1] at hjl
   rw [flat_get l (fun x hx=>(h.len x hx).1) hk,show (0+i)*k+j=j+k*i by rw [Nat.zero_add,Nat.mul_comm,Nat.add_comm],Nat.add_mul_div_left _ _ hk,Nat.div_eq_of_lt hjl,Nat.zero_add,Nat.add_mul_mod_self_left,Nat.mod_eq_of_lt hjl,hx]
   show x.cells[j]? = some ((x.cells[j]?).getD .any)
   rw [hy]
   rfl
  ·rw [hx]
   simp only [Option.getD_some,hy]
   exact hf x (Qzg hx) y (Qzg hy) _
end Ab

/-
  Texts packed for a claim.
-/
import Derived.Test.YtcoikmapjepdjaaGreatDoorE00
import Derived.Test.YtcoikmapjepdjaaGreatDoorE15
import Derived.Test.YtcoikmapjepdjaaGreatDoorE12
import Derived.Test.YtcoikmapjepdjaaGreatDoorE21
set_option linter.all false
namespace Ab
open Go Go.RowKit Go.Proofs
attribute [local irreducible] aws awp aw1 Og Om Oc Oa Ogd Ov Ot awd Ua awh Xb Ogh Ohd awl Ogl Ohl awv Ogv Ohv Wb Vb QFn Zc QRo QBe ACode AYield
def Xdx (l:List UInt8) (d:Nat) (σ:Za) (m:Int) (v:AV) (σ':Za):Prop:=∃ (n:Int) (a':Nat) (c':Int),v=.int .i64 n∧0≤n∧n≤m∧a'≤l.length∧σ'=σ.set d (Yc l a' c')
theorem Wcb (σ:Za) (d:Nat) (l:List UInt8) (a:Nat) (c m:Int) (h:σ[d]? = some (Yc l a c)) (ha:a≤l.length) (hl:l.length≤9223372036854775807) (hm:0≤m) (hm2:m≤2^40) :
  ACalls Tryz.prog 50 [.ptr d 0,.int .i64 m] σ (Xdx l d σ m):=by
 refine Yb Tryz.func50 rfl (Zb Tryz.func50 (by decide) rfl) ?_
 simp [Tryz.ntmps50]
 refine StA.of ((Ucv σ d l a c h ha hl).mono ?_)
 rintro v σ' ⟨n,a',c',rfl,h0,h1,ha',rfl⟩
 have hx:=w64 (n:=m+1) (by omega) (by omega)
 have hne:¬ m+1=0:=by omega
 have hif:(if 1<m+1 then m+1 else 1)=m+1:=by split<;>omega
 simp [hx,hne]
 rw [hif,if_neg hne]
 simp only [Option.map_some,Wl]
 have h3:=Int.tmod_lt_of_pos n (show 0<m+1 by omega)
 exact ⟨_,a',c',rfl,Int.tmod_nonneg _ h0,by omega,ha',rfl⟩
def Yiv:List (List UInt8):=[[116,105,100,101],[115,116,111,114,109],[113,117,97,121],[112,117,114,115,101,55],[98,101,108,108],[97],[48],[108,111,97,102,52]]
theorem Zc9 {σ:Za} {d:Nat} {l:List UInt8} {a:Nat} {c:Int} {n:Nat} {S:Za} (hd:d<σ.length):∀ (r:Nat) (o:AObj),(σ.set d (Yc l a c))[r]? = some o→σ[r]? = some o∨∃ cs,o=.cells cs∧∀ y∈cs,Fz n S y y:=by
 intro r o h
 rw [List.getElem?_set] at h
 split at h
 ·obtain rfl:=Option.some.inj h
  refine .inr ⟨_,rfl,fun y hy=>?_⟩
  simp at hy
  rcases hy with rfl | rfl | rfl
  ·refine .pl 1 _ fun i x hx j y hy=>?_
   unfold Zn at hx
   rw [Qzp,Qzm] at hx
   obtain ⟨b,_,rfl⟩:=hx
   match j,hy with
   | 0,hy=>simp [AV.cells] at hy;subst hy;exact .int _ _
   | j+1,hy=>simp [AV.cells] at hy
  ·exact .int _ _
  ·exact .int _ _
 ·exact .inl h
theorem Acc.set {σ g:Za} {k:Nat} {v:AV} {l:List AV} {o:Option Nat} (h:Acc σ g k v l o) (d:Nat) (X:AObj):Acc (σ.set d X) g k v l o:=⟨h.len,by
 have:=h.val
 cases o with
 | none=>exact this
 | some j=>rw [List.length_set];exact this⟩
theorem set_set {σ g:Za} {d:Nat} (hd:d<σ.length) (X Y:AObj):(σ.set d X++g).set d Y=σ.set d Y++g:=by
 rw [List.set_append_left _ _ (by simpa using hd),List.set_set]
theorem Xbf {σ g:Za} {d:Nat} (hd:d<σ.length) (X:AObj):(σ.set d X++g)[d]? = some X:=by
 rw [Qzl (by simpa using hd)];simp [hd]
end Ab
namespace Oyez
end Oyez
namespace Ab
open Go Go.RowKit Go.Proofs
attribute [local irreducible] aws awp aw1 Og Om Oc Oa Ogd Ov Ot awd Ua awh Xb Ogh Ohd awl Ogl Ohl awv Ogv Ohv Wb Vb QFn Zc QRo QBe ACode AYield
theorem Xgn (σ:Za) (x:AV) (hx:x.one=true):ACalls Tryz.prog 8 [x] σ (fun v σ'=>v=.ptr σ.length 0∧σ'=σ++[.cells [x,.int .i64 0,.int .u32 0]]):=by
 refine Yb Tryz.func8 rfl (Zb Tryz.func8 (by decide) rfl) ?_
 cases x<;>first | (simp [AV.one] at hx;done) | simp [Tryz.ntmps8]
end Ab
namespace Ab
open Go Go.RowKit Go.Proofs
theorem Yd8 {L:List Int} {k:Int} {i:Nat} (hn:L.Nodup) (hk:k∉L) (hi:i<L.length):(L.set i k++[L[i]]).Nodup:=by
 have key:∀ (L:List Int) (i:Nat) (k:Int),L.Nodup→k∉L→∀ (hi:i<L.length),(L.set i k++[L[i]]).Nodup∧∀ x∈L.set i k,x=k∨x∈L:=by
  intro L
  induction L with
  | nil=>intro i k _ _ hi;simp at hi
  | cons y L ih =>
   intro i k hn hk hi
   rw [List.nodup_cons] at hn
   rw [List.mem_cons,not_or] at hk
   cases i with
   | zero =>
    refine ⟨?_,fun x hx=>?_⟩
    ·simp only [List.set_cons_zero,List.getElem_cons_zero,List.cons_append,List.nodup_cons,List.mem_append,List.mem_singleton,not_or]
     refine ⟨⟨hk.2,hk.1⟩,?_⟩
     rw [List.nodup_append]
     exact ⟨hn.2,by simp,fun a ha b hb=>by rw [List.mem_singleton.1 hb];intro e;subst e;exact hn.1 ha⟩
    ·simp at hx
     rcases hx with rfl | hx
     ·exact .inl rfl
     ·exact .inr (by simp [hx])
   | succ i =>
    have hi':i<L.length:=by simpa using hi
    obtain ⟨h1,h2⟩:=ih i k hn.2 hk.2 hi'
    refine ⟨?_,fun x hx=>?_⟩
    ·simp only [List.set_cons_succ,List.getElem_cons_succ,List.cons_append,List.nodup_cons,List.mem_append,List.mem_singleton,not_or]
     refine ⟨⟨fun h=>?_,fun e=>?_⟩,h1⟩
     ·rcases h2 y h with e | h
      ·exact hk.1 e.symm
      ·exact hn.1 h
     ·exact hn.1 (e▸List.getElem_mem hi')
    ·simp at hx
     rcases hx with rfl | hx
     ·exact .inr (by simp)
     ·rcases h2 x hx with e | h
      ·exact .inl e
      ·exact .inr (by simp [h])
 exact (key L i k hn hk hi).1
attribute [local irreducible] aws awp aw1 Og Om Oc Oa Ogd Ov Ot awd Ua awh Xb Ogh Ohd awl Ogl Ohl awv Ogv Ohv Wb Vb QFn Zc QRo QBe ACode AYield
theorem Ucb (σ:Za) (d:Nat) (l:List UInt8) (a:Nat) (c lo hi:Int) (h:σ[d]? = some (Yc l a c)) (ha:a≤l.length) (hl:l.length≤9223372036854775807) (h0:-1000≤lo) (h1:lo≤hi) (h2:hi≤2^30) :
  ACalls Tryz.prog 45 [.ptr d 0,.int .i64 lo,.int .i64 hi] σ (fun v σ'=>∃ (n:Int) (a':Nat) (c':Int),v=.int .i64 n∧lo≤n∧n≤hi∧a'≤l.length∧σ'=σ.set d (Yc l a' c')):=by
 refine Yb Tryz.func45 rfl (Zb Tryz.func45 (by decide) rfl) ?_
 have hx:=w64 (n:=hi - lo) (by omega) (by omega)
 simp [Tryz.ntmps45,hx]
 refine StA.of ((Wcb σ d l a c (hi - lo) h ha hl (by omega) (by omega)).mono ?_)
 rintro v σ' ⟨n,a',c',rfl,h0,h1,ha',rfl⟩
 have hx2:=w64 (n:=lo+n) (by omega) (by omega)
 simp [hx2]
 exact ⟨by omega,by omega,a',ha',c',rfl⟩
def Ya (l:List Int):List AV:=l.map fun x=>AV.int .i64 x
end Ab
namespace Ab
open Go Go.RowKit Go.Proofs
attribute [local irreducible] aws awp aw1 Og Om Oc Oa Ogd Ov Ot awd Ua awh Xb Ogh Ohd awl Ogl Ohl awv Ogv Ohv Wb Vb QFn Zc QRo QBe ACode AYield
set_option maxHeartbeats 2000000 in
theorem Zhw (σ:Za) (d:Nat) (l:List UInt8) (a:Nat) (c:Int) (h:σ[d]? = some (Yc l a c)) (ha:a≤l.length) (hl:l.length≤9223372036854775807) :
  ∃ (n:Int) (a':Nat) (c':Int),(∀ Post:AV→Za→Prop,Post (.int .i64 n) (σ.set d (Yc l a' c'))→ACalls Tryz.prog 131 [.ptr d 0] σ Post)∧0≤n∧n<2^32∧a'≤l.length:=by
 have hd:=(Qzs.1 h).1
 have hs:∀ X:AObj,(σ.set d X)[d]? = some X:=fun X=>by simp [hd]
 unfold Yc at h
 by_cases he:a=l.length
 ·subst he
  by_cases h0:l.length=0
  ·have h0':(l.length:Int)=0:=by omega
   obtain rfl:=List.eq_nil_of_length_eq_zero h0
   refine ⟨?n1,0,?c1,fun Post hP=>?walk1,?b11,?b21,?b31⟩
   case walk1 =>
    refine Yb Tryz.func131 rfl (Zb Tryz.func131 (by decide) rfl) ?_
    simp [Tryz.ntmps131]
    refine Yl mixed (by kernel_rfl) ?_
    simp [h,hs,Zn]
    exact hP
   ·exact (Yx _).1
   ·exact (Yx _).2
   ·simp
  ·have h0':(0:Int)<(l.length:Int):=by omega
   have h0'':0<l.length:=by omega
   refine ⟨?n2,1,?c2,fun Post hP=>?walk2,?b12,?b22,?b32⟩
   case walk2 =>
    refine Yb Tryz.func131 rfl (Zb Tryz.func131 (by decide) rfl) ?_
    simp [Tryz.ntmps131]
    refine Yl mixed (by kernel_rfl) ?_
    simp [h,hs,Zn,h0',h0'']
    refine Yl mixed (by kernel_rfl) ?_
    have w1:IntKind.i64.wrap 1=1:=by decide
    simp [h,hs,Zn,h0',h0'',w1]
    exact hP
   ·exact (Yx _).1
   ·exact (Yx _).2
   ·omega
 ·have he':¬ (a:Int)=(l.length:Int):=by omega
  have h0':(0:Int)<(l.length:Int):=by omega
  have hlt:a<l.length:=by omega
  have hlt':(a:Int)<(l.length:Int):=by omega
  have hx:=w64 (n:=(a:Int)+1) (by omega) (by omega)
  have h0n:0<l.length:=by omega
  refine ⟨?n,a+1,?c,fun Post hP=>?walk,?b1,?b2,?b3⟩
  case walk =>
   refine Yb Tryz.func131 rfl (Zb Tryz.func131 (by decide) rfl) ?_
   simp [Tryz.ntmps131]
   refine Yl mixed (by kernel_rfl) ?_
   simp [h,hs,Zn,he,he',h0',h0n,hlt]
   refine Yl mixed (by kernel_rfl) ?_
   simp [h,hs,Zn,he,he',h0',h0n,hlt,hlt',hx]
   exact hP
  ·exact (Yx _).1
  ·exact (Yx _).2
  ·omega
theorem Zcb (σ:Za) (d:Nat) (l:List UInt8) (a:Nat) (c m:Int) (h:σ[d]? = some (Yc l a c)) (ha:a≤l.length) (hl:l.length≤9223372036854775807) (hm:0≤m) (hm2:m≤2^40) :
  ∃ (n:Int) (a':Nat) (c':Int),ACalls Tryz.prog 50 [.ptr d 0,.int .i64 m] σ (fun v s=>v=.int .i64 n∧s=σ.set d (Yc l a' c'))∧0≤n∧n≤m∧a'≤l.length:=by
 obtain ⟨n,a',c',hr,h0,h1,ha'⟩:=Zhw σ d l a c h ha hl
 have h3:=Int.tmod_lt_of_pos n (show 0<m+1 by omega)
 refine ⟨n.tmod (m+1),a',c',?_,Int.tmod_nonneg _ h0,by omega,ha'⟩
 refine Yb Tryz.func50 rfl (Zb Tryz.func50 (by decide) rfl) ?_
 simp [Tryz.ntmps50]
 refine StA.of (hr _ ?_)
 have hx:=w64 (n:=m+1) (by omega) (by omega)
 have hne:¬ m+1=0:=by omega
 have hif:(if 1<m+1 then m+1 else 1)=m+1:=by split<;>omega
 have hw:=w64 (n:=n.tmod (m+1)) (by have:=Int.tmod_nonneg (m+1) h0;omega) (by omega)
 simp [hx,hne]
 rw [hif,if_neg hne]
 simp only [Option.map_some,Wl]
 exact ⟨trivial,trivial⟩
end Ab
namespace Ab
abbrev Tab:=Nat→Nat→Int
def Waa (t:Tab) (s m:Nat) (v:Int):Tab:=fun s' m'=>if s'=s∧m'=m then v else t s' m'
theorem Ufh (t:Tab) (s m:Nat) (v:Int):Waa t s m v s m=v:=by simp [Waa]
structure SlInv (slots:Nat) (N:List (Nat × Int)) (t:Tab):Prop where
 hi:∀ s m,slots≤s→t s m=-1
 row:∀ s m m',t s m=t s m'→t s m≠-1→m=m'
 uniq:∀ s s' m,t s m=t s' m→t s m≠-1→s=s'
 mem:∀ s m,t s m≠-1→(m,t s m)∈N
 all:∀ m n,(m,n)∈N→∃ s,t s m=n
 man:∀ m n,(m,n)∈N→m<5
 no:∀ m n,(m,n)∈N→0≤n
theorem SlInv.cell {slots:Nat} {N:List (Nat × Int)} {t:Tab} (h:SlInv slots N t) (s m:Nat):t s m=-1∨0≤t s m:=by
 rcases Classical.em (t s m=-1) with e | e
 ·exact .inl e
 ·exact .inr (h.no _ _ (h.mem s m e))
theorem SlInv.lt {slots:Nat} {N:List (Nat × Int)} {t:Tab} (h:SlInv slots N t) {s m:Nat} (hm:t s m≠-1):s<slots:=by
 rcases Qzn s slots with e | e
 ·exact e
 ·exact absurd (h.hi s m e) hm
theorem SlInv.add {slots:Nat} {N:List (Nat × Int)} {t:Tab} (h:SlInv slots N t) {s m:Nat} {n:Int} (hs:s<slots) (hm:m<5) (hn:0≤n) (ho:t s m=-1) (hf:∀ m',t s m'≠n) (hnew:(m,n)∉N) :
  SlInv slots (N++[(m,n)]) (Waa t s m n):=by
 have hmn:∀ s',t s' m≠n:=fun s' e=>hnew (e▸h.mem s' m (by omega))
 refine ⟨fun s' m' hs'=>?_,fun s' m1 m2 he hne=>?_,fun s1 s2 m' he hne=>?_,fun s' m' hne=>?_,fun m' n' hm'=>?_,fun m' n' hm'=>?_,fun m' n' hm'=>?_⟩
 ·unfold Waa
  rw [if_neg (by omega)]
  exact h.hi s' m' hs'
 ·unfold Waa at he hne
  by_cases e1:s'=s∧m1=m<;>by_cases e2:s'=s∧m2=m
  ·omega
  ·rw [if_pos e1,if_neg e2] at he
   exact absurd (e1.1▸he.symm) (hf m2)
  ·rw [if_neg e1,if_pos e2] at he
   exact absurd (e2.1▸he) (hf m1)
  ·rw [if_neg e1] at hne
   rw [if_neg e1,if_neg e2] at he
   exact h.row s' m1 m2 he hne
 ·unfold Waa at he hne
  by_cases e1:s1=s∧m'=m<;>by_cases e2:s2=s∧m'=m
  ·omega
  ·rw [if_pos e1,if_neg e2] at he
   exact absurd (e1.2▸he.symm) (hmn s2)
  ·rw [if_neg e1,if_pos e2] at he
   exact absurd (e2.2▸he) (hmn s1)
  ·rw [if_neg e1] at hne
   rw [if_neg e1,if_neg e2] at he
   exact h.uniq s1 s2 m' he hne
 ·unfold Waa at hne ⊢
  by_cases e1:s'=s∧m'=m
  ·rw [if_pos e1,e1.2];simp
  ·rw [if_neg e1] at hne ⊢
   exact List.mem_append_left _ (h.mem s' m' hne)
 ·rcases List.mem_append.1 hm' with hm' | hm'
  ·obtain ⟨s',e⟩:=h.all m' n' hm'
   refine ⟨s',?_⟩
   unfold Waa
   rw [if_neg,e]
   rintro ⟨e1,e2⟩
   have:=h.no m' n' hm'
   rw [e1,e2,ho] at e
   omega
  ·simp at hm'
   refine ⟨s,?_⟩
   rw [hm'.1,hm'.2,Ufh]
 ·rcases List.mem_append.1 hm' with hm' | hm'
  ·exact h.man m' n' hm'
  ·simp at hm';omega
 ·rcases List.mem_append.1 hm' with hm' | hm'
  ·exact h.no m' n' hm'
  ·simp at hm';omega
def swS (a b s:Nat):Nat:=if s=a then b else if s=b then a else s
theorem Za7 (a b s:Nat):swS a b (swS a b s)=s:=by
 unfold swS
 by_cases h1:s=a
 ·by_cases h2:b=a
  ·simp [h1,h2]
  ·simp [h1,h2]
 ·by_cases h2:s=b
  ·simp [h1,h2]
  ·simp [h1,h2]
def swT (t:Tab) (a b:Nat) (C:Nat→Bool):Tab:=fun s m=>if C m then t (swS a b s) m else t s m
structure Clo (t:Tab) (a b:Nat) (C:Nat→Bool):Prop where
 ab:∀ m m',C m=true→t a m=t b m'→t a m≠-1→C m'=true
 ba:∀ m m',C m=true→t b m=t a m'→t b m≠-1→C m'=true
theorem SlInv.swap {slots:Nat} {N:List (Nat × Int)} {t:Tab} (h:SlInv slots N t) {a b:Nat} {C:Nat→Bool} (ha:a<slots) (hb:b<slots) (hc:Clo t a b C):SlInv slots N (swT t a b C):=by
 have sw_lt:∀ s,slots≤s→swS a b s=s:=fun s hs=>by unfold swS;rw [if_neg (by omega),if_neg (by omega)]
 have key:∀ s m m',C m=true→C m'=false→t (swS a b s) m=t s m'→t (swS a b s) m≠-1→m=m':=fun s m m' h1 h2 he hne=>by
  unfold swS at he hne
  by_cases e1:s=a
  ·subst e1
   simp only [if_true] at he hne
   exact absurd (hc.ba m m' h1 he hne) (by simp [h2])
  ·by_cases e2:s=b
   ·subst e2
    simp only [if_neg e1,if_true] at he hne
    exact absurd (hc.ab m m' h1 he hne) (by simp [h2])
   ·simp only [if_neg e1,if_neg e2] at he hne
    exact h.row s m m' he hne
 refine ⟨fun s m hs=>?_,fun s m m' he hne=>?_,fun s s' m he hne=>?_,fun s m hne=>?_,fun m n hm=>?_,h.man,h.no⟩
 ·unfold swT
  rw [sw_lt s hs,h.hi s m hs];simp
 ·unfold swT at he hne
  cases h1:C m<;>cases h2:C m'<;>simp only [h1,h2,if_true,Bool.false_eq_true,if_false] at he hne
  ·exact h.row s m m' he hne
  ·exact (key s m' m h2 h1 he.symm (he▸hne)).symm
  ·exact key s m m' h1 h2 he hne
  ·exact h.row _ m m' he hne
 ·unfold swT at he hne
  cases h1:C m<;>simp only [h1,if_true,Bool.false_eq_true,if_false] at he hne
  ·exact h.uniq s s' m he hne
  ·have:=h.uniq _ _ m he hne
   rw [← Za7 a b s,this,Za7]
 ·unfold swT at hne ⊢
  cases h1:C m<;>simp only [h1,if_true,Bool.false_eq_true,if_false] at hne ⊢
  ·exact h.mem s m hne
  ·exact h.mem _ m hne
 ·obtain ⟨s,e⟩:=h.all m n hm
  unfold swT
  cases h1:C m<;>simp only [if_true,Bool.false_eq_true,if_false]
  ·exact ⟨s,e⟩
  ·exact ⟨swS a b s,by rw [Za7,e]⟩
abbrev Ent:=Nat × Nat × Int
structure ChInv (t:Tab) (a b man:Nat) (C:List Nat) (E:List Ent) (cur:Int):Prop where
 nd:C.Nodup
 lt:∀ m∈C,m<5
 ane:∀ m∈C,t a m≠-1
 abl:∀ m∈C,∀ m':Nat,t a m=t b m'→m'∈C∨(m':Int)=cur
 pre:∀ m:Nat,(m∈C∨(m:Int)=cur)→m≠man→∃ p∈C,t b m=t a p
 curc:cur=-1∨∃ c:Nat,cur=c∧c<5∧c∉C
 mans:man∈C∨cur=man
 ent:∀ e:Ent,e∈E↔e.2.2=t e.1 e.2.1∧((e.1=a∧e.2.1∈C)∨(e.1=b∧(e.2.1∈C∨(e.2.1:Int)=cur)∧e.2.1≠man))
theorem ChInv.zero {t:Tab} {a b man:Nat} (hm:man<5):ChInv t a b man [] [] man :=
 ⟨.nil,by simp,by simp,by simp,fun m h hne=>by
  rcases h with h | h
  ·simp at h
  ·omega,.inr ⟨man,rfl,hm,by simp⟩,.inr rfl,fun e=>by
  constructor
  ·intro h;simp at h
  ·rintro ⟨_,h | ⟨_,h | h,hne⟩⟩
   ·simp at h
   ·simp at h
   ·omega⟩
section
variable {slots:Nat} {N:List (Nat × Int)} {t:Tab}
theorem ChInv.go (h:SlInv slots N t) {a b man c w:Nat} {C:List Nat} {E:List Ent} (hc:ChInv t a b man C E c) (h1:t a c≠-1) (hb:t b man=-1) (hw5:w<5) (hw:t b w=t a c):ChInv t a b man (C++[c]) (E++[(a,c,t a c)]++[(b,w,t a c)]) w:=by
 have hcC:c∉C∧c<5:=by
  rcases hc.curc with e | ⟨c',e,h5,hn⟩
  ·omega
  ·have:c=c':=by omega
   subst this;exact ⟨hn,h5⟩
 have hwm:w≠man:=fun e=>h1 (by rw [← hw,e,hb])
 have hwu:∀ m',t a c=t b m'→m'=w:=fun m' e=>(h.row b w m' (hw.trans e) (by rw [hw];exact h1)).symm
 have hwC:w∉C++[c]:=fun hm=>by
  have hm':w∈C∨(w:Int)=c:=by
   rcases List.mem_append.1 hm with hm | hm
   ·exact .inl hm
   ·exact .inr (by rw [List.mem_singleton.1 hm])
  obtain ⟨p,hp,e⟩:=hc.pre w hm' hwm
  have:c=p:=h.row a c p (hw.symm.trans e) h1
  exact hcC.1 (this▸hp)
 refine ⟨?_,fun m hm=>?_,fun m hm=>?_,fun m hm m' he=>?_,fun m hm hne=>?_,.inr ⟨w,rfl,hw5,hwC⟩,.inl ?_,fun e=>?_⟩
 ·rw [List.nodup_append]
  exact ⟨hc.nd,by simp,fun x hx y hy e=>by rw [List.mem_singleton.1 hy] at e;exact hcC.1 (e▸hx)⟩
 ·rcases List.mem_append.1 hm with hm | hm
  ·exact hc.lt m hm
  ·rw [List.mem_singleton.1 hm];exact hcC.2
 ·rcases List.mem_append.1 hm with hm | hm
  ·exact hc.ane m hm
  ·rw [List.mem_singleton.1 hm];exact h1
 ·rcases List.mem_append.1 hm with hm | hm
  ·rcases hc.abl m hm m' he with h | h
   ·exact .inl (List.mem_append_left _ h)
   ·exact .inl (List.mem_append_right _ (by simp;omega))
  ·rw [List.mem_singleton.1 hm] at he
   exact .inr (by rw [hwu m' he])
 ·by_cases hmw:m=w
  ·exact ⟨c,by simp,by rw [hmw];exact hw⟩
  ·have hm':m∈C∨(m:Int)=c:=by
    rcases hm with hm | hm
    ·rcases List.mem_append.1 hm with hm | hm
     ·exact .inl hm
     ·exact .inr (by rw [List.mem_singleton.1 hm])
    ·omega
   obtain ⟨p,hp,e⟩:=hc.pre m hm' hne
   exact ⟨p,List.mem_append_left _ hp,e⟩
 ·rcases hc.mans with hm | hm
  ·exact List.mem_append_left _ hm
  ·exact List.mem_append_right _ (by simp;omega)
 ·rw [List.mem_append,List.mem_append,hc.ent e,List.mem_singleton,List.mem_singleton]
  constructor
  ·rintro ((⟨h1,h2⟩ | rfl) | rfl)
   ·refine ⟨h1,?_⟩
    rcases h2 with ⟨e1,e2⟩ | ⟨e1,e2,e3⟩
    ·exact .inl ⟨e1,List.mem_append_left _ e2⟩
    ·refine .inr ⟨e1,.inl ?_,e3⟩
     rcases e2 with e2 | e2
     ·exact List.mem_append_left _ e2
     ·exact List.mem_append_right _ (by simp;omega)
   ·exact ⟨rfl,.inl ⟨rfl,by simp⟩⟩
   ·exact ⟨hw.symm,.inr ⟨rfl,.inr rfl,hwm⟩⟩
  ·rintro ⟨h1,⟨e1,e2⟩ | ⟨e1,e2,e3⟩⟩
   ·rcases List.mem_append.1 e2 with e2 | e2
    ·exact .inl (.inl ⟨h1,.inl ⟨e1,e2⟩⟩)
    ·refine .inl (.inr ?_)
     obtain ⟨s,m,n⟩:=e
     simp at h1 e1 e2
     simp [h1,e1,e2]
   ·rcases e2 with e2 | e2
    ·refine .inl (.inl ⟨h1,.inr ⟨e1,?_,e3⟩⟩)
     rcases List.mem_append.1 e2 with e2 | e2
     ·exact .inl e2
     ·exact .inr (by rw [List.mem_singleton.1 e2])
    ·refine .inr ?_
     obtain ⟨s,m,n⟩:=e
     simp at h1 e1 e2
     have:m=w:=by omega
     simp [h1,e1,this,hw]
theorem ChInv.len {a b man:Nat} {C:List Nat} {E:List Ent} {cur:Int} (hc:ChInv t a b man C E cur):C.length≤5:=by
 have key:∀ (k:Nat) (C:List Nat),C.Nodup→(∀ m∈C,m<k)→C.length≤k:=by
  intro k
  induction k with
  | zero=>intro C _ h;cases C with
   | nil=>simp
   | cons x C=>exact absurd (h x (by simp)) (by omega)
  | succ k ih =>
   intro C hn h
   have h2:=ih (C.erase k) (hn.erase k) fun m hm=>by
    have:=h m (List.mem_of_mem_erase hm)
    have h3:m≠k:=fun e=>by rw [e] at hm;exact (List.Nodup.not_mem_erase hn) hm
    omega
   have:=List.length_erase (a:=k) (l:=C)
   split at this<;>omega
 exact key 5 C hc.nd hc.lt
def chC (C:List Nat) (cur:Int) (m:Nat):Bool:=decide (m∈C)||decide ((m:Int)=cur)
theorem ChInv.clo (h:SlInv slots N t) {a b man:Nat} {C:List Nat} {E:List Ent} {cur:Int} (hc:ChInv t a b man C E cur) (hb:t b man=-1) (hend:∀ c:Nat,cur=c→t a c=-1):Clo t a b (chC C cur):=by
 refine ⟨fun m m' h1 he hne=>?_,fun m m' h1 he hne=>?_⟩
 ·have h2:m∈C∨(m:Int)=cur:=by simpa [chC] using h1
  rcases h2 with h2 | h2
  ·have:=hc.abl m h2 m' he
   simpa [chC] using this
  ·exact absurd (hend m h2.symm) hne
 ·have h2:m∈C∨(m:Int)=cur:=by simpa [chC] using h1
  have hm:m≠man:=fun e=>hne (by rw [e,hb])
  obtain ⟨p,hp,e⟩:=hc.pre m h2 hm
  have:p=m':=h.row a p m' (e.symm.trans he) (hc.ane p hp)
  simp [chC,← this,hp]
def Ubu (E:List Ent) (t:Tab):Tab:=E.foldl (fun t e=>Waa t e.1 e.2.1 (-1)) t
def Uer (a b:Nat) (E:List Ent) (t:Tab):Tab:=E.foldl (fun t e=>Waa t (a+b - e.1) e.2.1 e.2.2) t
end
end Ab
namespace Ab
theorem Ws {α:Type} [BEq α] [LawfulBEq α]:∀ (l1 l2:List α),l1.Nodup→(∀ x∈l1,x∈l2)→l1.length≤l2.length:=by
 intro l1
 induction l1 with
 | nil=>intro l2 _ _;simp
 | cons x l1 ih =>
  intro l2 hn hs
  rw [List.nodup_cons] at hn
  have hx:x∈l2:=hs x (by simp)
  have h2:=ih (l2.erase x) hn.2 fun y hy=>(List.mem_erase_of_ne fun e=>hn.1 (by rw [← e];exact hy)).2 (hs y (by simp [hy]))
  have h3:=List.length_erase_of_mem hx
  have h4:0<l2.length:=List.length_pos_of_mem hx
  simp
  omega
theorem Zaj {α β:Type} {f:α→β}:∀ {l:List α},l.Nodup→(∀ x∈l,∀ y∈l,f x=f y→x=y)→(l.map f).Nodup:=by
 intro l
 induction l with
 | nil=>intro _ _;simp
 | cons x l ih =>
  intro hn hf
  rw [List.nodup_cons] at hn
  rw [List.map_cons,List.nodup_cons]
  refine ⟨fun hm=>?_,ih hn.2 fun a ha b hb=>hf a (by simp [ha]) b (by simp [hb])⟩
  obtain ⟨y,hy,e⟩:=List.mem_map.1 hm
  have:=hf y (by simp [hy]) x (by simp) e
  exact hn.1 (this▸hy)
section
variable {slots:Nat} {N:List (Nat × Int)} {t:Tab}
theorem SlInv.free (h:SlInv slots N t) {n:Int} (hn:0≤n) (hlt:(N.filter fun p=>p.2 == n).length<slots):∃ s,s<slots∧∀ m,t s m≠n:=by
 apply Classical.byContradiction
 intro hno
 have hall:∀ s,s<slots→∃ m,t s m=n:=fun s hs=>by
  apply Classical.byContradiction
  intro h2
  exact hno ⟨s,hs,fun m e=>h2 ⟨m,e⟩⟩
 have hf:∃ f:Nat→Nat,∀ s,s<slots→t s (f s)=n:=⟨fun s=>Classical.epsilon fun m=>t s m=n,fun s hs=>Classical.epsilon_spec (hall s hs)⟩
 obtain ⟨f,hf⟩:=hf
 have hl:=Ws ((List.range slots).map fun s=>(f s,n)) (N.filter fun p=>p.2 == n) (Zaj List.nodup_range fun s1 h1 s2 h2 e=>by
  have h1':=List.mem_range.1 h1
  have h2':=List.mem_range.1 h2
  simp at e
  have a1:=hf s1 h1'
  have a2:=hf s2 h2'
  refine h.uniq s1 s2 (f s1) (by rw [a1,e,a2]) (by omega)) fun x hx=>by
  obtain ⟨s,hs,rfl⟩:=List.mem_map.1 hx
  have a1:=hf s (List.mem_range.1 hs)
  have:=h.mem s (f s) (by omega)
  rw [a1] at this
  simp [this]
 rw [List.length_map,List.length_range] at hl
 omega
end
def Zbm (t:Tab) (s:Nat):Nat→List Ent
 | 0=>[]
 | m+1=>Zbm t s m++if t s m=-1 then [] else [(s,m,t s m)]
def Wbk (t:Tab) (men:Nat):Nat→List Ent
 | 0=>[]
 | s+1=>Wbk t men s++Zbm t s men
def Uil (e:Ent):Int:=10*(e.1:Int)+(e.2.1:Int)
def Ya7 (E:List Ent) (n:Int):List Int:=(E.filter fun e=>e.2.2 == n).map fun e=>(e.2.1:Int)
end Ab
namespace Ab
open Go Go.RowKit Go.Proofs
structure Ntc where
 times:Int
 men:List Int
structure Rl where
 men:Int
 ntcs:List Ntc
def Ub (n:Ntc):AV:=.agg [.int .i64 n.times,.pl 1 (Ya n.men)]
def Ug (r:Rl):AV:=.agg [.int .i64 r.men,.pl 2 (r.ntcs.map Ub)]
def Uj (l:List (List Int)):AV:=.pl 1 (l.map fun x=>.pl 1 (Ya x))
structure Ntc.Ok (m:Int) (n:Ntc):Prop where
 t1:1≤n.times
 t3:n.times≤3
 le:n.times≤n.men.length
 srt:n.men.Pairwise (·<·)
 mem:∀ x∈n.men,0≤x∧x<m
structure Rl.Ok (r:Rl):Prop where
 m1:1≤r.men
 m5:r.men≤5
 few:r.ntcs.length≤6
 each:∀ n∈r.ntcs,n.Ok r.men
structure ShOk (r:Rl) (S:List (List Int)):Prop where
 len:S.length=r.ntcs.length
 each:∀ (i:Nat) (l:List Int) (n:Ntc),S[i]? = some l→r.ntcs[i]? = some n→(l.length:Int)=n.times∧l.Pairwise (·<·)∧∀ x∈l,x∈n.men
theorem Wam {l:List Int} {m:Nat} (h:l.Pairwise (·<·)) (hm:∀ x∈l,0≤x∧x<(m:Int)):l.length≤m:=by
 have hn:l.Nodup:=h.imp fun {a b} hab e=>by omega
 have:=Ws (l.map Int.toNat) (List.range m) (Zaj hn fun x hx y hy e=>by have:=hm x hx;have:=hm y hy;omega) fun y hy=>by
  obtain ⟨x,hx,rfl⟩:=List.mem_map.1 hy
  have:=hm x hx
  exact List.mem_range.2 (by omega)
 simpa using this
def Ui (i:Nat) (l:List Int):List (Nat × Int):=l.map fun m=>(m.toNat,(i:Int))
def shP (S:List (List Int)):List (Nat × Int):=(S.mapIdx Ui).flatten
theorem Vbt (S:List (List Int)) (l:List Int):shP (S++[l])=shP S++Ui S.length l:=by
 unfold shP
 rw [List.mapIdx_append]
 simp
theorem Uge (i:Nat) (l:List Int) (m:Int):Ui i (l++[m])=Ui i l++[(m.toNat,(i:Int))]:=by simp [Ui]
theorem mem_shP {S:List (List Int)} {m:Nat} {n:Int}:(m,n)∈shP S↔∃ (i:Nat) (l:List Int),S[i]? = some l∧n=i∧∃ x∈l,x.toNat=m:=by
 unfold shP
 rw [List.mem_flatten]
 constructor
 ·rintro ⟨L,hL,h⟩
  obtain ⟨i,hi⟩:=List.getElem?_of_mem hL
  rw [List.getElem?_mapIdx,Qzm] at hi
  obtain ⟨l,hl,rfl⟩:=hi
  obtain ⟨x,hx,e⟩:=List.mem_map.1 h
  simp at e
  exact ⟨i,l,hl,e.2.symm,x,hx,e.1⟩
 ·rintro ⟨i,l,hl,rfl,x,hx,rfl⟩
  refine ⟨Ui i l,?_,List.mem_map.2 ⟨x,hx,rfl⟩⟩
  refine Qzg (i:=i) ?_
  rw [List.getElem?_mapIdx,hl]
  rfl
def Uah (S:List (List Int)) (m:Nat):Int:=((shP S).filter fun p=>p.1 == m).length
def Zs (men:Nat) (S:List (List Int)):List Int:=(List.range men).map (Uah S)
def grt (l:List Int):Int:=l.foldl (fun n x=>if n<x then x else n) 0
theorem Zbu:∀ (l:List Int) (n:Int),n≤l.foldl (fun n x=>if n<x then x else n) n∧(∀ x∈l,x≤l.foldl (fun n x=>if n<x then x else n) n)∧(l.foldl (fun n x=>if n<x then x else n) n=n∨l.foldl (fun n x=>if n<x then x else n) n∈l):=by
 intro l
 induction l with
 | nil=>intro n;simp
 | cons y l ih =>
  intro n
  obtain ⟨h1,h2,h3⟩:=ih (if n<y then y else n)
  simp only [List.foldl_cons]
  obtain ⟨z,hz⟩:∃ z,(if n<y then y else n)=z:=⟨_,rfl⟩
  have hz2:n≤z∧y≤z∧(z=n∨z=y):=by rw [← hz];split<;>omega
  rw [hz] at h1 h2 h3 ⊢
  refine ⟨by omega,fun x hx=>?_,?_⟩
  ·rcases List.mem_cons.1 hx with rfl | hx
   ·omega
   ·exact h2 x hx
  ·rcases h3 with h3 | h3
   ·rcases hz2.2.2 with e | e
    ·left;rw [h3,e]
    ·right;rw [h3,e];simp
   ·right;exact List.mem_cons_of_mem _ h3
theorem Wbm {l:List Int} {b:Int} (hb:0≤b) (h:∀ x∈l,x≤b):grt l≤b:=by
 rcases (Zbu l 0).2.2 with e | e
 ·unfold grt;omega
 ·exact h _ e
theorem Ua7 {l:List Int} {x:Int} (h:x∈l):x≤grt l:=(Zbu l 0).2.1 x h
def slotsOf (r:Rl) (S:List (List Int)):Int:=let a:=grt (Zs r.men.toNat S);let b:=grt (r.ntcs.map Ntc.times);if a<b then b else a
theorem ShOk.mem {r:Rl} {S:List (List Int)} (hr:r.Ok) (h:ShOk r S) {i:Nat} {l:List Int} (hl:S[i]? = some l):∃ n,r.ntcs[i]? = some n∧n.Ok r.men∧(l.length:Int)=n.times∧l.Pairwise (·<·)∧∀ x∈l,x∈n.men∧0≤x∧x<r.men:=by
 have hi:=(Qzs.1 hl).1
 rw [h.len] at hi
 have hn:r.ntcs[i]? = some r.ntcs[i]:=Qze hi
 have hok:=hr.each _ (List.getElem_mem hi)
 obtain ⟨h1,h2,h3⟩:=h.each i l _ hl hn
 exact ⟨_,hn,hok,h1,h2,fun x hx=>⟨h3 x hx,hok.mem x (h3 x hx)⟩⟩
theorem ShOk.pairs {r:Rl} {S:List (List Int)} (hr:r.Ok) (h:ShOk r S) {m:Nat} {n:Int} (hm:(m,n)∈shP S):(m:Int)<r.men∧0≤n∧n<r.ntcs.length:=by
 obtain ⟨i,l,hl,rfl,x,hx,rfl⟩:=mem_shP.1 hm
 obtain ⟨n,hn,hok,_,_,h3⟩:=h.mem hr hl
 have:=(Qzs.1 hn).1
 have:=h3 x hx
 omega
structure Pre (S:List (List Int)) (i j:Nat) (l:List Int) (m:Int) (N:List (Nat × Int)):Prop where
 row:S[i]? = some l
 at_:l[j]? = some m
 eq:N=shP (S.take i)++Ui i (l.take j)
theorem Vef (A B:List (List Int)) (l:List Int):∃ C,shP (A++l::B)=shP A++(Ui A.length l++C):=by
 unfold shP
 rw [List.mapIdx_append,List.mapIdx_cons,List.flatten_append,List.flatten_cons]
 refine ⟨(List.mapIdx (fun i=>Ui (i+1+A.length)) B).flatten,?_⟩
 rw [Nat.zero_add]
theorem Vbp {α:Type} {l:List α} {i:Nat} {x:α} (h:l[i]? = some x):l=l.take i++x::l.drop (i+1)∧(l.take i).length=i:=by
 obtain ⟨hi,e⟩:=Qzs.1 h
 refine ⟨?_,by rw [List.length_take];omega⟩
 rw [← e,← List.drop_eq_getElem_cons hi,List.take_append_drop]
theorem Pre.split {S:List (List Int)} {i j:Nat} {l:List Int} {m:Int} {N:List (Nat × Int)} (h:Pre S i j l m N):∃ C,shP S=N++(m.toNat,(i:Int))::C:=by
 obtain ⟨e1,k1⟩:=Vbp h.row
 obtain ⟨e2,k2⟩:=Vbp h.at_
 obtain ⟨C,hC⟩:=Vef (S.take i) (S.drop (i+1)) l
 rw [← e1,k1] at hC
 refine ⟨Ui i (l.drop (j+1))++C,?_⟩
 rw [hC,h.eq]
 have:Ui i l=Ui i (l.take j)++(m.toNat,(i:Int))::Ui i (l.drop (j+1)):=by
  conv=>lhs;rw [e2]
  simp [Ui]
 rw [this]
 simp
theorem Zfn {S:List (List Int)} {i:Nat}:∀ p∈shP (S.take i),p.2<(i:Int):=fun p hp=>by
 obtain ⟨m,n⟩:=p
 obtain ⟨k,l,hk,e,_⟩:=mem_shP.1 hp
 have:=(Qzs.1 hk).1
 rw [List.length_take] at this
 show n<(i:Int)
 omega
section
variable {r:Rl} {S:List (List Int)} {i j:Nat} {l:List Int} {m:Int} {N:List (Nat × Int)}
theorem Pre.new (hr:r.Ok) (hs:ShOk r S) (h:Pre S i j l m N):(m.toNat,(i:Int))∉N:=by
 intro hm
 rw [h.eq] at hm
 obtain ⟨n,hn,hok,_,hp,h3⟩:=hs.mem hr h.row
 rcases List.mem_append.1 hm with hm | hm
 ·have:=Zfn _ hm
  simp at this
 ·obtain ⟨x,hx,e⟩:=List.mem_map.1 hm
  simp at e
  obtain ⟨e2,k2⟩:=Vbp h.at_
  rw [e2,List.pairwise_append] at hp
  have:=hp.2.2 x hx m (by simp)
  have:=h3 x (List.mem_of_mem_take hx)
  have:=h3 m (Qzg h.at_)
  omega
theorem Pre.ok (hr:r.Ok) (hs:ShOk r S) (h:Pre S i j l m N):0≤m∧m<r.men:=by
 obtain ⟨n,hn,hok,_,hp,h3⟩:=hs.mem hr h.row
 exact (h3 m (Qzg h.at_)).2
end
theorem Ugi (m:Nat):∀ (n:Nat) (S:List (List Int)),S.length=n→(∀ l∈S,l.Pairwise (·<·)∧∀ x∈l,0≤x)→Uah S m≤n:=by
 intro n
 induction n with
 | zero=>intro S h _;obtain rfl:=List.eq_nil_of_length_eq_zero h;simp [Uah,shP]
 | succ n ih =>
  intro S h hs
  obtain ⟨A,l,rfl⟩:∃ A l,S=A++[l]:=⟨S.dropLast,S.getLast (by intro e;simp [e] at h),(List.dropLast_concat_getLast _).symm⟩
  have h1:=ih A (by simpa using h) fun l hl=>hs l (by simp [hl])
  have h2:=hs l (by simp)
  unfold Uah at h1 ⊢
  rw [Vbt,List.filter_append,List.length_append]
  have h3:((Ui A.length l).filter fun p=>p.1 == m).length≤1:=by
   have hn:l.Nodup:=h2.1.imp fun {a b} hab e=>by omega
   have:=Ws ((Ui A.length l).filter fun p=>p.1 == m) [(m,(A.length:Int))] (List.Pairwise.filter _ (Zaj hn fun x hx y hy e=>by
    simp at e
    have:=h2.2 x hx
    have:=h2.2 y hy
    omega)) fun p hp=>by
    rw [List.mem_filter] at hp
    obtain ⟨x,hx,rfl⟩:=List.mem_map.1 hp.1
    have:=hp.2
    simp at this
    simp [this]
   simpa using this
  omega
def Uch (t:Tab) (men slots:Nat):List (List Int):=(List.range slots).map fun s=>(List.range men).map fun m=>t s m
end Ab

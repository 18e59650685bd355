/-
  Texts packed for a claim.
-/
import Derived.Test.YtcoikmapjepdjaaGreatDoorO00
import Derived.Test.YtcoikmapjepdjaaGreatDoorO24
import Derived.Test.YtcoikmapjepdjaaGreatDoorO22
import Derived.Test.YtcoikmapjepdjaaGreatDoorO26
import Derived.Test.YtcoikmapjepdjaaGreatDoorO25
set_option linter.all false
namespace Ab
theorem Yz {α:Type} [BEq α] [LawfulBEq α]:∀ (l1 l2:List α),l1.Nodup→(∀ x∈l1,x∈l2)→l1.length≤l2.length:=by
 intro l1
 induction l1 with
 | nil=>intro l2 _ _;simp
 | cons x l1 ih =>
  intro l2 hn hs
  rw [List.nodup_cons] at hn
  have hx:x∈l2:=hs x (by simp)
  have h2:=ih (l2.erase x) hn.2 fun y hy=>(List.mem_erase_of_ne fun e=>hn.1 (by rw [← e];exact hy)).2 (hs y (by simp [hy]))
  have h3:=List.length_erase_of_mem hx
  have h4:0<l2.length:=List.length_pos_of_mem hx
  simp
  omega
theorem Vai {α β:Type} {f:α→β}:∀ {l:List α},l.Nodup→(∀ x∈l,∀ y∈l,f x=f y→x=y)→(l.map f).Nodup:=by
 intro l
 induction l with
 | nil=>intro _ _;simp
 | cons x l ih =>
  intro hn hf
  rw [List.nodup_cons] at hn
  rw [List.map_cons,List.nodup_cons]
  refine ⟨fun hm=>?_,ih hn.2 fun a ha b hb=>hf a (by simp [ha]) b (by simp [hb])⟩
  obtain ⟨y,hy,e⟩:=List.mem_map.1 hm
  have:=hf y (by simp [hy]) x (by simp) e
  exact hn.1 (this▸hy)
section
variable {slots:Nat} {N:List (Nat × Int)} {t:Tab}
theorem SlInv.free (h:SlInv slots N t) {n:Int} (hn:0≤n) (hlt:(N.filter fun p=>p.2 == n).length<slots):∃ s,s<slots∧∀ m,t s m≠n:=by
 apply Classical.byContradiction
 intro hno
 have hall:∀ s,s<slots→∃ m,t s m=n:=fun s hs=>by
  apply Classical.byContradiction
  intro h2
  exact hno ⟨s,hs,fun m e=>h2 ⟨m,e⟩⟩
 have hf:∃ f:Nat→Nat,∀ s,s<slots→t s (f s)=n:=⟨fun s=>Classical.epsilon fun m=>t s m=n,fun s hs=>Classical.epsilon_spec (hall s hs)⟩
 obtain ⟨f,hf⟩:=hf
 have hl:=Yz ((List.range slots).map fun s=>(f s,n)) (N.filter fun p=>p.2 == n) (Vai List.nodup_range fun s1 h1 s2 h2 e=>by
  have h1':=List.mem_range.1 h1
  have h2':=List.mem_range.1 h2
  simp at e
  have a1:=hf s1 h1'
  have a2:=hf s2 h2'
  refine h.uniq s1 s2 (f s1) (by rw [a1,e,a2]) (by omega)) fun x hx=>by
  obtain ⟨s,hs,rfl⟩:=List.mem_map.1 hx
  have a1:=hf s (List.mem_range.1 hs)
  have:=h.mem s (f s) (by omega)
  rw [a1] at this
  simp [this]
 rw [List.length_map,List.length_range] at hl
 omega
theorem SlInv.opens (h:SlInv slots N t) {man:Nat} (hlt:(N.filter fun p=>p.1 == man).length<slots):∃ s,s<slots∧t s man=-1:=by
 apply Classical.byContradiction
 intro hno
 have hall:∀ s,s<slots→t s man≠-1:=fun s hs e=>hno ⟨s,hs,e⟩
 have hl:=Yz ((List.range slots).map fun s=>(man,t s man)) (N.filter fun p=>p.1 == man) (Vai List.nodup_range fun s1 h1 s2 h2 e=>by
  have h1':=List.mem_range.1 h1
  simp at e
  exact h.uniq s1 s2 man e (hall s1 h1')) fun x hx=>by
  obtain ⟨s,hs,rfl⟩:=List.mem_map.1 hx
  have:=h.mem s man (hall s (List.mem_range.1 hs))
  simp [this]
 rw [List.length_map,List.length_range] at hl
 omega
end
def Vk (t:Tab) (s:Nat):Nat→List Ent
 | 0=>[]
 | m+1=>Vk t s m++if t s m=-1 then [] else [(s,m,t s m)]
def Wd (t:Tab) (men:Nat):Nat→List Ent
 | 0=>[]
 | s+1=>Wd t men s++Vk t s men
theorem Ug9 {t:Tab} {s:Nat} {e:Ent}:∀ {m:Nat},e∈Vk t s m↔e.1=s∧e.2.1<m∧e.2.2=t s e.2.1∧t s e.2.1≠-1:=by
 intro m
 induction m with
 | zero=>simp [Vk]
 | succ m ih =>
  rw [Vk,List.mem_append,ih]
  constructor
  ·rintro (⟨h1,h2,h3⟩ | h)
   ·exact ⟨h1,by omega,h3⟩
   ·split at h
    ·simp at h
    ·rw [List.mem_singleton] at h;subst h;simp;assumption
  ·rintro ⟨h1,h2,h3,h4⟩
   by_cases hm:e.2.1<m
   ·exact .inl ⟨h1,hm,h3,h4⟩
   ·right
    have:e.2.1=m:=by omega
    rw [this] at h3 h4
    rw [if_neg h4,List.mem_singleton]
    obtain ⟨a,b,c⟩:=e
    simp at h1 this h3
    simp [h1,this,h3]
theorem entE_mem {t:Tab} {men:Nat} {e:Ent}:∀ {s:Nat},e∈Wd t men s↔e.1<s∧e.2.1<men∧e.2.2=t e.1 e.2.1∧t e.1 e.2.1≠-1:=by
 intro s
 induction s with
 | zero=>simp [Wd]
 | succ s ih =>
  rw [Wd,List.mem_append,ih,Ug9]
  constructor
  ·rintro (⟨h1,h2⟩ | ⟨h1,h2,h3,h4⟩)
   ·exact ⟨by omega,h2⟩
   ·rw [h1];exact ⟨by omega,h2,h3,h4⟩
  ·rintro ⟨h1,h2,h3,h4⟩
   by_cases hm:e.1<s
   ·exact .inl ⟨hm,h2,h3,h4⟩
   ·right
    have:e.1=s:=by omega
    rw [this] at h3 h4
    exact ⟨this,h2,h3,h4⟩
def Zl (e:Ent):Int:=10*(e.1:Int)+(e.2.1:Int)
theorem Uhb {t:Tab} {s:Nat}:∀ {m:Nat},m≤10→((Vk t s m).map Zl).Pairwise (·<·)∧∀ x∈(Vk t s m).map Zl,10*(s:Int)≤x∧x<10*(s:Int)+m:=by
 intro m
 induction m with
 | zero=>intro _;simp [Vk]
 | succ m ih =>
  intro h10
  obtain ⟨h1,h2⟩:=ih (by omega)
  rw [Vk]
  split
  ·rw [List.append_nil]
   exact ⟨h1,fun x hx=>by have:=h2 x hx;omega⟩
  ·rw [List.map_append]
   refine ⟨?_,fun x hx=>?_⟩
   ·rw [List.pairwise_append]
    refine ⟨h1,by simp,fun a ha b hb=>?_⟩
    simp [Zl] at hb
    have:=h2 a ha
    omega
   ·rcases List.mem_append.1 hx with hx | hx
    ·have:=h2 x hx;omega
    ·simp [Zl] at hx;omega
theorem Vbm {t:Tab} {men:Nat} (hm:men≤10):∀ {s:Nat},((Wd t men s).map Zl).Pairwise (·<·)∧∀ x∈(Wd t men s).map Zl,0≤x∧x<10*(s:Int):=by
 intro s
 induction s with
 | zero=>simp [Wd]
 | succ s ih =>
  obtain ⟨h1,h2⟩:=ih
  obtain ⟨h3,h4⟩:=Uhb (t:=t) (s:=s) hm
  rw [Wd,List.map_append]
  refine ⟨?_,fun x hx=>?_⟩
  ·rw [List.pairwise_append]
   refine ⟨h1,h3,fun a ha b hb=>?_⟩
   have:=h2 a ha
   have:=h4 b hb
   omega
  ·rcases List.mem_append.1 hx with hx | hx
   ·have:=h2 x hx;omega
   ·have:=h4 x hx;omega
def Zn (E:List Ent) (n:Int):List Int:=(E.filter fun e=>e.2.2 == n).map fun e=>(e.2.1:Int)
theorem Wfq (E:List Ent) (e:Ent) (n:Int):Zn (E++[e]) n=Zn E n++if e.2.2=n then [(e.2.1:Int)] else []:=by
 unfold Zn
 rw [List.filter_append,List.map_append]
 by_cases h:e.2.2=n<;>simp [h]
theorem Zee:∀ {a b:List Int},a.Pairwise (·<·)→b.Pairwise (·<·)→(∀ x,x∈a↔x∈b)→a=b:=by
 intro a
 induction a with
 | nil=>intro b _ _ h;cases b with
  | nil=>rfl
  | cons y b=>exact absurd ((h y).2 (by simp)) (by simp)
 | cons x a ih =>
  intro b ha hb h
  cases b with
  | nil=>exact absurd ((h x).1 (by simp)) (by simp)
  | cons y b =>
   rw [List.pairwise_cons] at ha hb
   have hxy:x=y:=by
    have h1:=(h x).1 (by simp)
    have h2:=(h y).2 (by simp)
    rcases List.mem_cons.1 h1 with h1 | h1
    ·exact h1
    ·rcases List.mem_cons.1 h2 with h2 | h2
     ·exact h2.symm
     ·have:=ha.1 y h2
      have:=hb.1 x h1
      omega
   subst hxy
   rw [ih ha.2 hb.2 fun z=>?_]
   constructor
   ·intro hz
    have:=(h z).1 (by simp [hz])
    rcases List.mem_cons.1 this with e | e
    ·have:=ha.1 z hz;omega
    ·exact e
   ·intro hz
    have:=(h z).2 (by simp [hz])
    rcases List.mem_cons.1 this with e | e
    ·have:=hb.1 z hz;omega
    ·exact e
theorem Zb9 {slots men:Nat} {N:List (Nat × Int)} {t:Tab} (h:SlInv slots N t) (hN:∀ m n,(m,n)∈N→m<men) (n:Int) (hn:0≤n) (x:Int):x∈Zn (Wd t men slots) n↔∃ m:Nat,x=m∧(m,n)∈N:=by
 unfold Zn
 rw [List.mem_map]
 constructor
 ·rintro ⟨e,he,rfl⟩
  rw [List.mem_filter,entE_mem] at he
  obtain ⟨⟨h1,h2,h3,h4⟩,h5⟩:=he
  have h5':e.2.2=n:=by simpa using h5
  refine ⟨e.2.1,rfl,?_⟩
  rw [← h5',h3]
  exact h.mem _ _ h4
 ·rintro ⟨m,rfl,hm⟩
  obtain ⟨s,e⟩:=h.all m n hm
  have hne:t s m≠-1:=by omega
  exact ⟨(s,m,n),by rw [List.mem_filter,entE_mem];exact ⟨⟨h.lt hne,hN m n hm,e.symm,hne⟩,by simp⟩,rfl⟩
theorem Wer {slots men:Nat} {N:List (Nat × Int)} {t:Tab} (h:SlInv slots N t) (hm:men≤10) (n:Int):(Zn (Wd t men slots) n).Nodup:=by
 unfold Zn
 have hs:=(Vbm (t:=t) hm (s:=slots)).1
 have hnd:(Wd t men slots).Nodup:=by
  rw [List.pairwise_map] at hs
  exact hs.imp fun {a b} hab e=>by rw [e] at hab;omega
 refine Vai (List.Pairwise.filter _ hnd) fun x hx y hy e=>?_
 rw [List.mem_filter,entE_mem] at hx hy
 have hx5:x.2.2=n:=by simpa using hx.2
 have hy5:y.2.2=n:=by simpa using hy.2
 have e':x.2.1=y.2.1:=by omega
 obtain ⟨xs,xm,xn⟩:=x
 obtain ⟨ys,ym,yn⟩:=y
 simp at hx hy hx5 hy5 e'
 subst e'
 have hxt:t xs xm=n:=by rw [← hx.1.2.2.1,hx5]
 have hyt:t ys xm=n:=by rw [← hy.1.2.2.1,hy5]
 have:=h.uniq xs ys xm (by rw [hxt,hyt]) (by have:=hx.1.2.2.2;omega)
 simp [this,hx5,hy5]
end Ab
namespace Ab
open Go Go.RowKit Go.Proofs
theorem Xdy {L:List Int} {k:Int} {i:Nat} (hn:L.Nodup) (hk:k∉L) (hi:i<L.length):(L.set i k++[L[i]]).Nodup:=by
 have key:∀ (L:List Int) (i:Nat) (k:Int),L.Nodup→k∉L→∀ (hi:i<L.length),(L.set i k++[L[i]]).Nodup∧∀ x∈L.set i k,x=k∨x∈L:=by
  intro L
  induction L with
  | nil=>intro i k _ _ hi;simp at hi
  | cons y L ih =>
   intro i k hn hk hi
   rw [List.nodup_cons] at hn
   rw [List.mem_cons,not_or] at hk
   cases i with
   | zero =>
    refine ⟨?_,fun x hx=>?_⟩
    ·simp only [List.set_cons_zero,List.getElem_cons_zero,List.cons_append,List.nodup_cons,List.mem_append,List.mem_singleton,not_or]
     refine ⟨⟨hk.2,hk.1⟩,?_⟩
     rw [List.nodup_append]
     exact ⟨hn.2,by simp,fun a ha b hb=>by rw [List.mem_singleton.1 hb];intro e;subst e;exact hn.1 ha⟩
    ·simp at hx
     rcases hx with rfl | hx
     ·exact .inl rfl
     ·exact .inr (by simp [hx])
   | succ i =>
    have hi':i<L.length:=by simpa using hi
    obtain ⟨h1,h2⟩:=ih i k hn.2 hk.2 hi'
    refine ⟨?_,fun x hx=>?_⟩
    ·simp only [List.set_cons_succ,List.getElem_cons_succ,List.cons_append,List.nodup_cons,List.mem_append,List.mem_singleton,not_or]
     refine ⟨⟨fun h=>?_,fun e=>?_⟩,h1⟩
     ·rcases h2 y h with e | h
      ·exact hk.1 e.symm
      ·exact hn.1 h
     ·exact hn.1 (e▸List.getElem_mem hi')
    ·simp at hx
     rcases hx with rfl | hx
     ·exact .inr (by simp)
     ·rcases h2 x hx with e | h
      ·exact .inl e
      ·exact .inr (by simp [h])
 exact (key L i k hn hk hi).1
attribute [local irreducible] aws awp aw1 Og Om Oc Oa Ogd Ov Ot awd Zb awh Wb Ogh Ohd awl Ogl Ohl awv Ogv Ohv Xb Vb QFn Ub QRo QBe ACode AYield
theorem Wb5 (σ:Za) (d:Nat) (l:List UInt8) (a:Nat) (c lo hi:Int) (h:σ[d]? = some (Yd l a c)) (ha:a≤l.length) (hl:l.length≤9223372036854775807) (h0:-1000≤lo) (h1:lo≤hi) (h2:hi≤2^30) :
  ACalls Tryz.prog 45 [.ptr d 0,.int .i64 lo,.int .i64 hi] σ (fun v σ'=>∃ (n:Int) (a':Nat) (c':Int),v=.int .i64 n∧lo≤n∧n≤hi∧a'≤l.length∧σ'=σ.set d (Yd l a' c')):=by
 refine Yb Tryz.func45 rfl (Ua Tryz.func45 (by decide) rfl) ?_
 have hx:=w64 (n:=hi - lo) (by omega) (by omega)
 simp [Tryz.ntmps45,hx]
 refine StA.of ((Xcg σ d l a c (hi - lo) h ha hl (by omega) (by omega)).mono ?_)
 rintro v σ' ⟨n,a',c',rfl,h0,h1,ha',rfl⟩
 have hx2:=w64 (n:=lo+n) (by omega) (by omega)
 simp [hx2]
 exact ⟨by omega,by omega,a',ha',c',rfl⟩
def Ya (l:List Int):List AV:=l.map fun x=>AV.int .i64 x
end Ab
namespace Ab
open Go Go.RowKit Go.Proofs
attribute [local irreducible] aws awp aw1 Og Om Oc Oa Ogd Ov Ot awd Zb awh Wb Ogh Ohd awl Ogl Ohl awv Ogv Ohv Xb Vb QFn Ub QRo QBe ACode AYield
set_option maxHeartbeats 2000000 in
theorem Yh3 (σ:Za) (d:Nat) (l:List UInt8) (a:Nat) (c:Int) (h:σ[d]? = some (Yd l a c)) (ha:a≤l.length) (hl:l.length≤9223372036854775807) :
  ∃ (n:Int) (a':Nat) (c':Int),(∀ Post:AV→Za→Prop,Post (.int .i64 n) (σ.set d (Yd l a' c'))→ACalls Tryz.prog 131 [.ptr d 0] σ Post)∧0≤n∧n<2^32∧a'≤l.length:=by
 have hd:=(Qzs.1 h).1
 have hs:∀ X:AObj,(σ.set d X)[d]? = some X:=fun X=>by simp [hd]
 unfold Yd at h
 by_cases he:a=l.length
 ·subst he
  by_cases h0:l.length=0
  ·have h0':(l.length:Int)=0:=by omega
   obtain rfl:=List.eq_nil_of_length_eq_zero h0
   refine ⟨?n1,0,?c1,fun Post hP=>?walk1,?b11,?b21,?b31⟩
   case walk1 =>
    refine Yb Tryz.func131 rfl (Ua Tryz.func131 (by decide) rfl) ?_
    simp [Tryz.ntmps131]
    refine Ym mixed (by kernel_rfl) ?_
    simp [h,hs,Zi]
    exact hP
   ·exact (Zz _).1
   ·exact (Zz _).2
   ·simp
  ·have h0':(0:Int)<(l.length:Int):=by omega
   have h0'':0<l.length:=by omega
   refine ⟨?n2,1,?c2,fun Post hP=>?walk2,?b12,?b22,?b32⟩
   case walk2 =>
    refine Yb Tryz.func131 rfl (Ua Tryz.func131 (by decide) rfl) ?_
    simp [Tryz.ntmps131]
    refine Ym mixed (by kernel_rfl) ?_
    simp [h,hs,Zi,h0',h0'']
    refine Ym mixed (by kernel_rfl) ?_
    have w1:IntKind.i64.wrap 1=1:=by decide
    simp [h,hs,Zi,h0',h0'',w1]
    exact hP
   ·exact (Zz _).1
   ·exact (Zz _).2
   ·omega
 ·have he':¬ (a:Int)=(l.length:Int):=by omega
  have h0':(0:Int)<(l.length:Int):=by omega
  have hlt:a<l.length:=by omega
  have hlt':(a:Int)<(l.length:Int):=by omega
  have hx:=w64 (n:=(a:Int)+1) (by omega) (by omega)
  have h0n:0<l.length:=by omega
  refine ⟨?n,a+1,?c,fun Post hP=>?walk,?b1,?b2,?b3⟩
  case walk =>
   refine Yb Tryz.func131 rfl (Ua Tryz.func131 (by decide) rfl) ?_
   simp [Tryz.ntmps131]
   refine Ym mixed (by kernel_rfl) ?_
   simp [h,hs,Zi,he,he',h0',h0n,hlt]
   refine Ym mixed (by kernel_rfl) ?_
   simp [h,hs,Zi,he,he',h0',h0n,hlt,hlt',hx]
   exact hP
  ·exact (Zz _).1
  ·exact (Zz _).2
  ·omega
theorem Yc2 (σ:Za) (d:Nat) (l:List UInt8) (a:Nat) (c m:Int) (h:σ[d]? = some (Yd l a c)) (ha:a≤l.length) (hl:l.length≤9223372036854775807) (hm:0≤m) (hm2:m≤2^40) :
  ∃ (n:Int) (a':Nat) (c':Int),ACalls Tryz.prog 50 [.ptr d 0,.int .i64 m] σ (fun v s=>v=.int .i64 n∧s=σ.set d (Yd l a' c'))∧0≤n∧n≤m∧a'≤l.length:=by
 obtain ⟨n,a',c',hr,h0,h1,ha'⟩:=Yh3 σ d l a c h ha hl
 have h3:=Int.tmod_lt_of_pos n (show 0<m+1 by omega)
 refine ⟨n.tmod (m+1),a',c',?_,Int.tmod_nonneg _ h0,by omega,ha'⟩
 refine Yb Tryz.func50 rfl (Ua Tryz.func50 (by decide) rfl) ?_
 simp [Tryz.ntmps50]
 refine StA.of (hr _ ?_)
 have hx:=w64 (n:=m+1) (by omega) (by omega)
 have hne:¬ m+1=0:=by omega
 have hif:(if 1<m+1 then m+1 else 1)=m+1:=by split<;>omega
 have hw:=w64 (n:=n.tmod (m+1)) (by have:=Int.tmod_nonneg (m+1) h0;omega) (by omega)
 simp [hx,hne]
 rw [hif,if_neg hne]
 simp only [Option.map_some,Xk]
 exact ⟨trivial,trivial⟩
end Ab
namespace Ab
open Go Go.RowKit Go.Proofs
structure Ntc where
 times:Int
 men:List Int
structure Rl where
 men:Int
 ntcs:List Ntc
def Zc (n:Ntc):AV:=.agg [.int .i64 n.times,.pl 1 (Ya n.men)]
def Uh (r:Rl):AV:=.agg [.int .i64 r.men,.pl 2 (r.ntcs.map Zc)]
def Ze (l:List (List Int)):AV:=.pl 1 (l.map fun x=>.pl 1 (Ya x))
structure Ntc.Ok (m:Int) (n:Ntc):Prop where
 t1:1≤n.times
 t3:n.times≤3
 le:n.times≤n.men.length
 srt:n.men.Pairwise (·<·)
 mem:∀ x∈n.men,0≤x∧x<m
structure Rl.Ok (r:Rl):Prop where
 m1:1≤r.men
 m5:r.men≤5
 few:r.ntcs.length≤6
 each:∀ n∈r.ntcs,n.Ok r.men
structure ShOk (r:Rl) (S:List (List Int)):Prop where
 len:S.length=r.ntcs.length
 each:∀ (i:Nat) (l:List Int) (n:Ntc),S[i]? = some l→r.ntcs[i]? = some n→(l.length:Int)=n.times∧l.Pairwise (·<·)∧∀ x∈l,x∈n.men
theorem Va2 {l:List Int} {m:Nat} (h:l.Pairwise (·<·)) (hm:∀ x∈l,0≤x∧x<(m:Int)):l.length≤m:=by
 have hn:l.Nodup:=h.imp fun {a b} hab e=>by omega
 have:=Yz (l.map Int.toNat) (List.range m) (Vai hn fun x hx y hy e=>by have:=hm x hx;have:=hm y hy;omega) fun y hy=>by
  obtain ⟨x,hx,rfl⟩:=List.mem_map.1 hy
  have:=hm x hx
  exact List.mem_range.2 (by omega)
 simpa using this
def Yh (i:Nat) (l:List Int):List (Nat × Int):=l.map fun m=>(m.toNat,(i:Int))
def shP (S:List (List Int)):List (Nat × Int):=(S.mapIdx Yh).flatten
theorem Yca (S:List (List Int)) (l:List Int):shP (S++[l])=shP S++Yh S.length l:=by
 unfold shP
 rw [List.mapIdx_append]
 simp
theorem Vfd (i:Nat) (l:List Int) (m:Int):Yh i (l++[m])=Yh i l++[(m.toNat,(i:Int))]:=by simp [Yh]
theorem mem_shP {S:List (List Int)} {m:Nat} {n:Int}:(m,n)∈shP S↔∃ (i:Nat) (l:List Int),S[i]? = some l∧n=i∧∃ x∈l,x.toNat=m:=by
 unfold shP
 rw [List.mem_flatten]
 constructor
 ·rintro ⟨L,hL,h⟩
  obtain ⟨i,hi⟩:=List.getElem?_of_mem hL
  rw [List.getElem?_mapIdx,Qzm] at hi
  obtain ⟨l,hl,rfl⟩:=hi
  obtain ⟨x,hx,e⟩:=List.mem_map.1 h
  simp at e
  exact ⟨i,l,hl,e.2.symm,x,hx,e.1⟩
 ·rintro ⟨i,l,hl,rfl,x,hx,rfl⟩
  refine ⟨Yh i l,?_,List.mem_map.2 ⟨x,hx,rfl⟩⟩
  refine Qzg (i:=i) ?_
  rw [List.getElem?_mapIdx,hl]
  rfl
def Xam (S:List (List Int)) (m:Nat):Int:=((shP S).filter fun p=>p.1 == m).length
def Xu (men:Nat) (S:List (List Int)):List Int:=(List.range men).map (Xam S)
def grt (l:List Int):Int:=l.foldl (fun n x=>if n<x then x else n) 0
theorem Zbj:∀ (l:List Int) (n:Int),n≤l.foldl (fun n x=>if n<x then x else n) n∧(∀ x∈l,x≤l.foldl (fun n x=>if n<x then x else n) n)∧(l.foldl (fun n x=>if n<x then x else n) n=n∨l.foldl (fun n x=>if n<x then x else n) n∈l):=by
 intro l
 induction l with
 | nil=>intro n;simp
 | cons y l ih =>
  intro n
  obtain ⟨h1,h2,h3⟩:=ih (if n<y then y else n)
  simp only [List.foldl_cons]
  obtain ⟨z,hz⟩:∃ z,(if n<y then y else n)=z:=⟨_,rfl⟩
  have hz2:n≤z∧y≤z∧(z=n∨z=y):=by rw [← hz];split<;>omega
  rw [hz] at h1 h2 h3 ⊢
  refine ⟨by omega,fun x hx=>?_,?_⟩
  ·rcases List.mem_cons.1 hx with rfl | hx
   ·omega
   ·exact h2 x hx
  ·rcases h3 with h3 | h3
   ·rcases hz2.2.2 with e | e
    ·left;rw [h3,e]
    ·right;rw [h3,e];simp
   ·right;exact List.mem_cons_of_mem _ h3
theorem Xbu {l:List Int} {b:Int} (hb:0≤b) (h:∀ x∈l,x≤b):grt l≤b:=by
 rcases (Zbj l 0).2.2 with e | e
 ·unfold grt;omega
 ·exact h _ e
theorem Ucl {l:List Int} {x:Int} (h:x∈l):x≤grt l:=(Zbj l 0).2.1 x h
theorem Zcv (l:List Int):0≤grt l:=(Zbj l 0).1
def slotsOf (r:Rl) (S:List (List Int)):Int:=let a:=grt (Xu r.men.toNat S);let b:=grt (r.ntcs.map Ntc.times);if a<b then b else a
theorem Xbl (r:Rl) (S:List (List Int)):grt (Xu r.men.toNat S)≤slotsOf r S∧grt (r.ntcs.map Ntc.times)≤slotsOf r S:=by
 unfold slotsOf
 simp only
 split<;>omega
theorem ShOk.mem {r:Rl} {S:List (List Int)} (hr:r.Ok) (h:ShOk r S) {i:Nat} {l:List Int} (hl:S[i]? = some l):∃ n,r.ntcs[i]? = some n∧n.Ok r.men∧(l.length:Int)=n.times∧l.Pairwise (·<·)∧∀ x∈l,x∈n.men∧0≤x∧x<r.men:=by
 have hi:=(Qzs.1 hl).1
 rw [h.len] at hi
 have hn:r.ntcs[i]? = some r.ntcs[i]:=Qze hi
 have hok:=hr.each _ (List.getElem_mem hi)
 obtain ⟨h1,h2,h3⟩:=h.each i l _ hl hn
 exact ⟨_,hn,hok,h1,h2,fun x hx=>⟨h3 x hx,hok.mem x (h3 x hx)⟩⟩
theorem ShOk.pairs {r:Rl} {S:List (List Int)} (hr:r.Ok) (h:ShOk r S) {m:Nat} {n:Int} (hm:(m,n)∈shP S):(m:Int)<r.men∧0≤n∧n<r.ntcs.length:=by
 obtain ⟨i,l,hl,rfl,x,hx,rfl⟩:=mem_shP.1 hm
 obtain ⟨n,hn,hok,_,_,h3⟩:=h.mem hr hl
 have:=(Qzs.1 hn).1
 have:=h3 x hx
 omega
structure Pre (S:List (List Int)) (i j:Nat) (l:List Int) (m:Int) (N:List (Nat × Int)):Prop where
 row:S[i]? = some l
 at_:l[j]? = some m
 eq:N=shP (S.take i)++Yh i (l.take j)
theorem Yhr {α:Type} {A B:List α} {x:α} {C:List α} (h:B=A++x::C) {q:α→Bool} (hq:q x=true):(A.filter q).length<(B.filter q).length:=by
 subst h
 rw [List.filter_append,List.filter_cons,if_pos hq]
 simp
theorem Vg0 (A B:List (List Int)) (l:List Int):∃ C,shP (A++l::B)=shP A++(Yh A.length l++C):=by
 unfold shP
 rw [List.mapIdx_append,List.mapIdx_cons,List.flatten_append,List.flatten_cons]
 refine ⟨(List.mapIdx (fun i=>Yh (i+1+A.length)) B).flatten,?_⟩
 rw [Nat.zero_add]
theorem Vbv {α:Type} {l:List α} {i:Nat} {x:α} (h:l[i]? = some x):l=l.take i++x::l.drop (i+1)∧(l.take i).length=i:=by
 obtain ⟨hi,e⟩:=Qzs.1 h
 refine ⟨?_,by rw [List.length_take];omega⟩
 rw [← e,← List.drop_eq_getElem_cons hi,List.take_append_drop]
theorem Pre.split {S:List (List Int)} {i j:Nat} {l:List Int} {m:Int} {N:List (Nat × Int)} (h:Pre S i j l m N):∃ C,shP S=N++(m.toNat,(i:Int))::C:=by
 obtain ⟨e1,k1⟩:=Vbv h.row
 obtain ⟨e2,k2⟩:=Vbv h.at_
 obtain ⟨C,hC⟩:=Vg0 (S.take i) (S.drop (i+1)) l
 rw [← e1,k1] at hC
 refine ⟨Yh i (l.drop (j+1))++C,?_⟩
 rw [hC,h.eq]
 have:Yh i l=Yh i (l.take j)++(m.toNat,(i:Int))::Yh i (l.drop (j+1)):=by
  conv=>lhs;rw [e2]
  simp [Yh]
 rw [this]
 simp
theorem Xcf {S:List (List Int)} {i:Nat}:∀ p∈shP (S.take i),p.2<(i:Int):=fun p hp=>by
 obtain ⟨m,n⟩:=p
 obtain ⟨k,l,hk,e,_⟩:=mem_shP.1 hp
 have:=(Qzs.1 hk).1
 rw [List.length_take] at this
 show n<(i:Int)
 omega
section
variable {r:Rl} {S:List (List Int)} {i j:Nat} {l:List Int} {m:Int} {N:List (Nat × Int)}
theorem Pre.new (hr:r.Ok) (hs:ShOk r S) (h:Pre S i j l m N):(m.toNat,(i:Int))∉N:=by
 intro hm
 rw [h.eq] at hm
 obtain ⟨n,hn,hok,_,hp,h3⟩:=hs.mem hr h.row
 rcases List.mem_append.1 hm with hm | hm
 ·have:=Xcf _ hm
  simp at this
 ·obtain ⟨x,hx,e⟩:=List.mem_map.1 hm
  simp at e
  obtain ⟨e2,k2⟩:=Vbv h.at_
  rw [e2,List.pairwise_append] at hp
  have:=hp.2.2 x hx m (by simp)
  have:=h3 x (List.mem_of_mem_take hx)
  have:=h3 m (Qzg h.at_)
  omega
theorem Pre.rowFew (hr:r.Ok) (hs:ShOk r S) (h:Pre S i j l m N):((N.filter fun p=>p.2 == (i:Int)).length:Int)<slotsOf r S:=by
 obtain ⟨n,hn,hok,h1,hp,h3⟩:=hs.mem hr h.row
 have hj:=(Qzs.1 h.at_).1
 have e:(shP (S.take i)).filter (fun p=>p.2 == (i:Int))=[]:=by
  rw [List.filter_eq_nil_iff]
  intro p hp
  have:=Xcf p hp
  simp
  omega
 rw [h.eq,List.filter_append,e,List.nil_append]
 have h4:=List.length_filter_le (fun p=>p.2 == (i:Int)) (Yh i (l.take j))
 have h5:(Yh i (l.take j)).length=j:=by simp [Yh];omega
 have h6:=Ucl (List.mem_map_of_mem (f:=Ntc.times) (Qzg hn))
 have h7:=(Xbl r S).2
 omega
theorem Pre.manFew (hr:r.Ok) (hs:ShOk r S) (h:Pre S i j l m N):((N.filter fun p=>p.1 == m.toNat).length:Int)<slotsOf r S:=by
 obtain ⟨C,hC⟩:=h.split
 have h1:=Yhr hC (q:=fun p=>p.1 == m.toNat) (by simp)
 obtain ⟨n,hn,hok,_,hp,h3⟩:=hs.mem hr h.row
 have hm:=h3 m (Qzg h.at_)
 have h6:Xam S m.toNat∈Xu r.men.toNat S:=List.mem_map_of_mem (List.mem_range.2 (by omega))
 have h7:=Ucl h6
 have h8:=(Xbl r S).1
 unfold Xam at h7
 omega
theorem Pre.ok (hr:r.Ok) (hs:ShOk r S) (h:Pre S i j l m N):0≤m∧m<r.men:=by
 obtain ⟨n,hn,hok,_,hp,h3⟩:=hs.mem hr h.row
 exact (h3 m (Qzg h.at_)).2
end
theorem Ycf (m:Nat):∀ (n:Nat) (S:List (List Int)),S.length=n→(∀ l∈S,l.Pairwise (·<·)∧∀ x∈l,0≤x)→Xam S m≤n:=by
 intro n
 induction n with
 | zero=>intro S h _;obtain rfl:=List.eq_nil_of_length_eq_zero h;simp [Xam,shP]
 | succ n ih =>
  intro S h hs
  obtain ⟨A,l,rfl⟩:∃ A l,S=A++[l]:=⟨S.dropLast,S.getLast (by intro e;simp [e] at h),(List.dropLast_concat_getLast _).symm⟩
  have h1:=ih A (by simpa using h) fun l hl=>hs l (by simp [hl])
  have h2:=hs l (by simp)
  unfold Xam at h1 ⊢
  rw [Yca,List.filter_append,List.length_append]
  have h3:((Yh A.length l).filter fun p=>p.1 == m).length≤1:=by
   have hn:l.Nodup:=h2.1.imp fun {a b} hab e=>by omega
   have:=Yz ((Yh A.length l).filter fun p=>p.1 == m) [(m,(A.length:Int))] (List.Pairwise.filter _ (Vai hn fun x hx y hy e=>by
    simp at e
    have:=h2.2 x hx
    have:=h2.2 y hy
    omega)) fun p hp=>by
    rw [List.mem_filter] at hp
    obtain ⟨x,hx,rfl⟩:=List.mem_map.1 hp.1
    have:=hp.2
    simp at this
    simp [this]
   simpa using this
  omega
theorem Vbl {r:Rl} {S:List (List Int)} (hr:r.Ok) (hs:ShOk r S):0≤slotsOf r S∧slotsOf r S≤6:=by
 have h1:=Xbl r S
 have h2:=Zcv (Xu r.men.toNat S)
 refine ⟨by omega,?_⟩
 have h3:grt (Xu r.men.toNat S)≤6:=Xbu (by omega) fun x hx=>by
  obtain ⟨m,_,rfl⟩:=List.mem_map.1 hx
  have:=Ycf m S.length S rfl fun l hl=>by
   obtain ⟨i,hi⟩:=List.getElem?_of_mem hl
   obtain ⟨n,_,_,_,h4,h5⟩:=hs.mem hr hi
   exact ⟨h4,fun x hx=>(h5 x hx).2.1⟩
  have:=hs.len
  have:=hr.few
  omega
 have h4:grt (r.ntcs.map Ntc.times)≤6:=Xbu (by omega) fun x hx=>by
  obtain ⟨n,hn,rfl⟩:=List.mem_map.1 hx
  have:=(hr.each n hn).t3
  omega
 unfold slotsOf
 simp only
 split<;>omega
def Uf (t:Tab) (men slots:Nat):List (List Int):=(List.range slots).map fun s=>(List.range men).map fun m=>t s m
theorem Yfu {r:Rl} {S:List (List Int)} {t:Tab} {slots:Nat} (hr:r.Ok) (hs:ShOk r S) (ht:SlInv slots (shP S) t) {i:Nat} {l L:List Int} (hl:S[i]? = some l) (hL:L.Pairwise (·<·)) (hp:∀ x,x∈L↔x∈Zn (Wd t r.men.toNat slots) i):L=l:=by
 obtain ⟨n,hn,hok,h1,h2,h3⟩:=hs.mem hr hl
 refine Zee hL h2 fun x=>?_
 rw [hp,Zb9 ht (fun m n hm=>by have:=(hs.pairs hr hm).1;omega) i (by omega)]
 constructor
 ·rintro ⟨m,rfl,hm⟩
  obtain ⟨k,l',hk,e,x,hx,rfl⟩:=mem_shP.1 hm
  obtain rfl:i=k:=by omega
  rw [hl] at hk
  obtain rfl:=Option.some.inj hk
  have:=h3 x hx
  rw [show ((x.toNat:Nat):Int)=x by omega]
  exact hx
 ·intro hx
  have:=h3 x hx
  exact ⟨x.toNat,by omega,mem_shP.2 ⟨i,l,hl,rfl,x,hx,rfl⟩⟩
end Ab

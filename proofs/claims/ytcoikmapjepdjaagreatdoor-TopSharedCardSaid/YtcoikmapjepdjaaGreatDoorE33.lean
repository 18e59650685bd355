/-
  Texts packed for a claim.
-/
import Derived.Test.YtcoikmapjepdjaaGreatDoorE00
import Derived.Test.YtcoikmapjepdjaaGreatDoorE32
set_option linter.all false
namespace Ab
open Go Go.RowKit Go.Proofs
structure Fl (M:Nat→List Int) (most:Int) (K men:Nat) (s s':DS):Prop where
 F:s'.F=s.F
 ld:s'.ld=s.ld
 pre:∃ x,s'.met=s.met++x
 nd:s.met.Nodup→s'.met.Nodup
 lt:(∀ x∈s.met,0≤x∧x<(men:Int))→∀ x∈s'.met,0≤x∧x<(men:Int)
 new:∀ m∈s'.met,m∈s.met∨(most≤s.ld m.toNat∧∀ o,o<K→m∈s.F o→∀ x∈M o,x∈s'.met∨x∈s.F o)
theorem Fl.sub {M:Nat→List Int} {most:Int} {K men:Nat} {s s':DS} (h:Fl M most K men s s') {x:Int} (hx:x∈s.met):x∈s'.met:=by
 obtain ⟨y,hy⟩:=h.pre
 rw [hy];exact List.mem_append_left _ hx
theorem Fl.refl {M:Nat→List Int} {most:Int} {K men:Nat} (s:DS):Fl M most K men s s:=⟨rfl,rfl,⟨[],by simp⟩,fun h=>h,fun h=>h,fun _ h=>.inl h⟩
theorem Fl.trans {M:Nat→List Int} {most:Int} {K men:Nat} {s s' s'':DS} (h:Fl M most K men s s') (h':Fl M most K men s' s''):Fl M most K men s s'':=by
 refine ⟨h'.F.trans h.F,h'.ld.trans h.ld,?_,fun hn=>h'.nd (h.nd hn),fun hn=>h'.lt (h.lt hn),fun m hm=>?_⟩
 ·obtain ⟨x,hx⟩:=h.pre
  obtain ⟨y,hy⟩:=h'.pre
  exact ⟨x++y,by rw [hy,hx,List.append_assoc]⟩
 rcases h'.new m hm with h1 | ⟨h1,h2⟩
 ·rcases h.new m h1 with h3 | ⟨h3,h4⟩
  ·exact .inl h3
  ·refine .inr ⟨h3,fun o ho hmo x hx=>?_⟩
   rcases h4 o ho hmo x hx with h5 | h5
   ·exact .inl (h'.sub h5)
   ·exact .inr h5
 ·rw [h.ld] at h1
  rw [h.F] at h2
  exact .inr ⟨h1,h2⟩
structure FlPre (men k:Nat) (s:DS):Prop where
 nd:s.met.Nodup
 lt:∀ x∈s.met,0≤x∧x<(men:Int)
 fuel:men<s.met.length+k
theorem FlPre.go {M:Nat→List Int} {most:Int} {K men k:Nat} {s s':DS} (h:FlPre men k s) (hf:Fl M most K men s s'):FlPre men k s':=by
 obtain ⟨x,hx⟩:=hf.pre
 exact ⟨hf.nd h.nd,hf.lt h.lt,by have:=h.fuel;rw [hx,List.length_append];omega⟩
theorem Ugv {M:Nat→List Int} {most:Int} {K men k:Nat} {Pl:Nat→DS→Bool × DS}
  (hP:∀ o s s',o<K→FlPre men k s→Pl o s=(false,s')→Fl M most K men s s'∧∀ x∈M o,x∈s'.met∨x∈s.F o) {m:Int} :
  ∀ (os:List Nat) (s s':DS),(∀ o∈os,o<K)→FlPre men k s→plO Pl m os s=(false,s')→Fl M most K men s s'∧∀ o∈os,m∈s.F o→∀ x∈M o,x∈s'.met∨x∈s.F o:=by
 intro os
 induction os with
 | nil=>intro s s' _ _ e;rw [plO] at e;injection e with _ e;subst e;exact ⟨.refl _,fun o ho=>by cases ho⟩
 | cons o os ih =>
  intro s s' ho hp e
  rw [plO] at e
  split at e
  ·rename_i hin
   split at e
   ·cases e
   ·rename_i s1 e1
    obtain ⟨q1,q2⟩:=hP o s s1 (ho o (by simp)) hp e1
    obtain ⟨r1,r2⟩:=ih s1 s' (fun o h=>ho o (by simp [h])) (hp.go q1) e
    refine ⟨q1.trans r1,fun o' ho' hm x hx=>?_⟩
    rcases List.mem_cons.1 ho' with rfl | ho'
    ·rcases q2 x hx with h | h
     ·exact .inl (r1.sub h)
     ·exact .inr h
    ·rw [q1.F] at r2
     exact r2 o' ho' hm x hx
  ·rename_i hin
   obtain ⟨r1,r2⟩:=ih s s' (fun o h=>ho o (by simp [h])) hp e
   refine ⟨r1,fun o' ho' hm x hx=>?_⟩
   rcases List.mem_cons.1 ho' with rfl | ho'
   ·exact absurd hm hin
   ·exact r2 o' ho' hm x hx
theorem Ufm {M:Nat→List Int} {most:Int} {K n men k:Nat} {Pl:Nat→DS→Bool × DS}
  (hP:∀ o s s',o<K→FlPre men k s→Pl o s=(false,s')→Fl M most K men s s'∧∀ x∈M o,x∈s'.met∨x∈s.F o) :
  ∀ (ms:List Int) (s s':DS),(∀ m∈ms,0≤m∧m<(men:Int))→FlPre men (k+1) s→plM Pl most n K ms s=(false,s') →
  Fl M most K men s s'∧∀ x∈ms,x∈s'.met∨x∈s.F n:=by
 intro ms
 induction ms with
 | nil=>intro s s' _ hs e;rw [plM] at e;injection e with _ e;subst e;exact ⟨.refl _,fun o ho=>by cases ho⟩
 | cons m ms ih =>
  intro s s' hm hs e
  rw [plM] at e
  split at e
  ·rename_i hin
   obtain ⟨r1,r2⟩:=ih s s' (fun x h=>hm x (by simp [h])) hs e
   refine ⟨r1,fun x hx=>?_⟩
   rcases List.mem_cons.1 hx with rfl | hx
   ·rcases hin with h | h
    ·exact .inl (r1.sub h)
    ·exact .inr h
   ·exact r2 x hx
  ·rename_i hno
   have hno1:m∉s.met:=fun h=>hno (.inl h)
   split at e
   ·cases e
   ·rename_i hld
    split at e
    ·cases e
    ·rename_i s1 e1
     have hmt:(s.meet m).met=s.met++[m]:=rfl
     have hs1:FlPre men k (s.meet m):=by
      refine ⟨?_,fun x hx=>?_,?_⟩
      ·rw [hmt,List.nodup_append]
       exact ⟨hs.nd,by simp,fun x hx y hy e=>by simp at hy;subst hy;exact hno1 (e▸hx)⟩
      ·rw [hmt] at hx
       rcases List.mem_append.1 hx with h | h
       ·exact hs.lt x h
       ·simp at h;subst h;exact hm x (by simp)
      ·have:=hs.fuel;rw [hmt,List.length_append,List.length_singleton];omega
     obtain ⟨q1,q2⟩:=Ugv hP (m:=m) (List.range K) (s.meet m) s1 (fun o h=>List.mem_range.1 h) hs1 e1
     have hself:Fl M most K men s s1:=by
      refine ⟨q1.F,q1.ld,?_,fun _=>q1.nd hs1.nd,fun _=>q1.lt hs1.lt,fun x hx=>?_⟩
      ·obtain ⟨x,hx⟩:=q1.pre
       exact ⟨[m]++x,by rw [hx,hmt,List.append_assoc]⟩
      ·rcases q1.new x hx with h | h
       ·rw [hmt] at h
        rcases List.mem_append.1 h with h | h
        ·exact .inl h
        ·simp at h;subst h
         exact .inr ⟨by omega,fun o ho hmo y hy=>q2 o (List.mem_range.2 ho) hmo y hy⟩
       ·exact .inr h
     have hs2:FlPre men (k+1) s1:=hs.go hself
     obtain ⟨r1,r2⟩:=ih s1 s' (fun x h=>hm x (by simp [h])) hs2 e
     refine ⟨hself.trans r1,fun x hx=>?_⟩
     rcases List.mem_cons.1 hx with rfl | hx
     ·exact .inl (r1.sub (q1.sub (by rw [hmt];simp)))
     ·rw [hself.F] at r2
      exact r2 x hx
theorem Yeb {M:Nat→List Int} {most:Int} {K men:Nat} (hM:∀ n,n<K→∀ m∈M n,0≤m∧m<(men:Int)):∀ (k n:Nat) (s s':DS),n<K→FlPre men k s→plD M most K k n s=(false,s')→Fl M most K men s s'∧∀ x∈M n,x∈s'.met∨x∈s.F n:=by
 intro k
 induction k with
 | zero =>
  intro n s s' _ hs _
  exfalso
  have:=Ws (s.met.map Int.toNat) (List.range men) (Zaj hs.nd fun x hx y hy e=>by have:=hs.lt x hx;have:=hs.lt y hy;omega) fun y hy=>by
   obtain ⟨x,hx,rfl⟩:=List.mem_map.1 hy
   have:=hs.lt x hx
   exact List.mem_range.2 (by omega)
  simp at this
  have:=hs.fuel
  omega
 | succ k ih =>
  intro n s s' hn hs e
  rw [plD] at e
  exact Ufm (fun o s s' ho hp he=>ih o s s' ho hp he) (M n) s s' (hM n hn) hs e
def Xk (M:Nat→List Int) (K:Nat) (A:List Int):List Nat:=(List.range K).filter fun i=>decide (∀ x∈M i,x∈A)
theorem Xbh (F:Nat→List Int) (m:Int):∀ k,cntF F m k=((List.range k).filter fun o=>decide (m∈F o)).length
 | 0=>by simp [cntF]
 | k+1=>by
  rw [cntF,Xbh F m k,List.range_succ,List.filter_append,List.length_append]
  by_cases h:m∈F k<;>simp [h]
theorem rows_apart {F:Nat→List Int} {K:Nat} {most:Int} (h1:∀ o,o<K→∀ x∈F o,∀ y∈F o,x=y):∀ (A:List Int),A.Nodup→(∀ m∈A,most≤cntF F m K) →
  ∃ L:List Nat,L.Nodup∧(∀ o∈L,o<K∧∃ m∈A,m∈F o)∧most*(A.length:Int)≤L.length:=by
 intro A
 induction A with
 | nil=>intro _ _;exact ⟨[],by simp,by simp,by simp⟩
 | cons m A ih =>
  intro hnd hm
  rw [List.nodup_cons] at hnd
  obtain ⟨L,l1,l2,l3⟩:=ih hnd.2 fun x hx=>hm x (by simp [hx])
  refine ⟨((List.range K).filter fun o=>decide (m∈F o))++L,?_,fun o ho=>?_,?_⟩
  ·rw [List.nodup_append]
   refine ⟨List.nodup_range.filter _,l1,fun a ha b hb e=>?_⟩
   subst e
   rw [List.mem_filter] at ha
   obtain ⟨h2,x,hx,hxF⟩:=l2 a hb
   have:=h1 a h2 x hxF m (by simpa using ha.2)
   subst this
   exact hnd.1 hx
  ·rcases List.mem_append.1 ho with h | h
   ·rw [List.mem_filter] at h
    exact ⟨List.mem_range.1 h.1,m,by simp,by simpa using h.2⟩
   ·obtain ⟨h2,x,hx,hxF⟩:=l2 o h
    exact ⟨h2,x,by simp [hx],hxF⟩
  ·have:=hm m (by simp)
   rw [Xbh] at this
   rw [List.length_append,List.length_cons]
   have e:most*((A.length+1:Nat):Int)=most*(A.length:Int)+most:=by rw [Int.natCast_add,Int.mul_add];simp
   rw [e]
   omega
theorem Yhu {M:Nat→List Int} {most:Int} {K men:Nat} (hM:∀ n,n<K→∀ m∈M n,0≤m∧m<(men:Int)) {n:Nat} (hn:n<K) {s s':DS} (hs:DI M men K s) (hone:∀ o,o<K→(s.F o).length≤1) (hno:s.F n=[]) (hM1:M n≠[]) (hmen:men≤5)
  (hmet:s.met=[]) (e:plD M most K 6 n s=(false,s')):∃ A:List Int,A.Nodup∧A≠[]∧(∀ x∈A,0≤x∧x<(men:Int))∧most*(A.length:Int)<(Xk M K A).length:=by
 obtain ⟨q1,q2⟩:=Yeb hM 6 n s s' hn ⟨by rw [hmet];simp,by rw [hmet];simp,by rw [hmet];simp;omega⟩ e
 have hsub:∀ x∈M n,x∈s'.met:=fun x hx=>(q2 x hx).resolve_right (by rw [hno];simp)
 have hlt:=q1.lt (by rw [hmet];simp)
 have hnew:∀ m∈s'.met,most≤s.ld m.toNat∧∀ o,o<K→m∈s.F o→∀ x∈M o,x∈s'.met∨x∈s.F o:=fun m hm=>(q1.new m hm).resolve_left (by rw [hmet];simp)
 have h1:∀ o,o<K→∀ x∈s.F o,∀ y∈s.F o,x=y:=fun o ho x hx y hy=>by
  have:=hone o ho
  obtain ⟨l,hF⟩:∃ l,s.F o=l:=⟨_,rfl⟩
  rw [hF] at this hx hy
  match l,this,hx,hy with
  | [],_,hx,_=>cases hx
  | [z],_,hx,hy=>simp at hx hy;rw [hx,hy]
  | _::_::_,h,_,_=>simp at h
 obtain ⟨L,l1,l2,l3⟩:=rows_apart (F:=s.F) (most:=most) h1 s'.met (q1.nd (by rw [hmet];simp)) fun m hm=>by
  have:=(hnew m hm).1
  have hb:=hlt m hm
  have hl:=hs.ld m.toNat (by omega)
  rw [show ((m.toNat:Nat):Int)=m by omega] at hl
  omega
 refine ⟨s'.met,q1.nd (by rw [hmet];simp),fun h=>?_,hlt,?_⟩
 ·match hMn:M n,hM1 with
  | [],h=>exact h rfl
  | x::_,_=>have:=hsub x (by rw [hMn];simp);rw [h] at this;cases this
 ·have hnL:n∉L:=fun h=>by
   obtain ⟨_,m,_,hm⟩:=l2 n h
   rw [hno] at hm;cases hm
  have:=Ws (n::L) (Xk M K s'.met) (List.nodup_cons.2 ⟨hnL,l1⟩) fun o ho=>by
   unfold Xk
   rw [List.mem_filter]
   rcases List.mem_cons.1 ho with rfl | ho
   ·exact ⟨List.mem_range.2 hn,decide_eq_true hsub⟩
   ·obtain ⟨h2,m,hm,hmF⟩:=l2 o ho
    refine ⟨List.mem_range.2 h2,decide_eq_true fun x hx=>?_⟩
    rcases (hnew m hm).2 o h2 hmF x hx with h | h
    ·exact h
    ·exact h1 o h2 m hmF x h▸hm
  rw [List.length_cons] at this
  omega
theorem Vcn {α:Type} (q:α→Bool):∀ l:List α,l.length=(l.filter q).length+(l.filter fun x=>!q x).length
 | []=>rfl
 | x::l=>by
  have:=Vcn q l
  by_cases h:q x=true<;>simp [h]<;>omega
theorem Ze9 {α:Type} {f:α→Int} {b:Int}:∀ (A:List Int) (l:List α),(∀ x∈l,f x∈A)→(∀ m∈A,((l.filter fun x=>f x == m).length:Int)≤b)→(l.length:Int)≤b*(A.length:Int):=by
 intro A
 induction A with
 | nil=>intro l h _;cases l with
  | nil=>simp
  | cons x l=>have:=h x (by simp);cases this
 | cons m A ih =>
  intro l h hb
  have h1:=ih (l.filter fun x=>!(f x == m)) (fun x hx=>by
   rw [List.mem_filter] at hx
   have:=h x hx.1
   rcases List.mem_cons.1 this with h2 | h2
   ·simp [h2] at hx
   ·exact h2) (fun m' hm'=>by
   have:=hb m' (by simp [hm'])
   refine Int.le_trans ?_ this
   rw [List.filter_filter,show (fun a=>f a == m'&&!f a == m)=(fun a=>(!f a == m)&&(f a == m')) from funext fun a=>Bool.and_comm _ _,← List.filter_filter]
   exact Int.ofNat_le.2 (List.length_filter_le _ _))
  have h2:=hb m (by simp)
  have h3:=Vcn (fun x=>f x == m) l
  rw [List.length_cons]
  have e:b*((A.length+1:Nat):Int)=b*(A.length:Int)+b:=by rw [Int.natCast_add,Int.mul_add];simp
  rw [e]
  omega
def LdLe (most:Int) (s:DS):Prop:=∀ k,s.ld k≤most
theorem LdLe.give {most:Int} {s:DS} (h:LdLe most s) {m:Int} (hm:s.ld m.toNat<most) (n:Nat):LdLe most (s.give m n):=fun k=>by
 show (if (k:Int)=m then s.ld k+1 else s.ld k)≤most
 split
 ·rename_i e
  have:m.toNat=k:=by omega
  rw [this] at hm;omega
 ·exact h k
theorem LdLe.take {most:Int} {s:DS} (h:LdLe most s) (m:Int) (n:Nat):LdLe most (s.take m n):=fun k=>by
 show (if (k:Int)=m then s.ld k - 1 else s.ld k)≤most
 have:=h k
 split<;>omega
theorem Zhj {most:Int} {Pl:Nat→DS→Bool × DS} (hP:∀ o s,LdLe most s→LdLe most (Pl o s).2) {m:Int} (hm:0≤m):∀ (os:List Nat) (s:DS),LdLe most s→LdLe most (plO Pl m os s).2∧((plO Pl m os s).1=true→(plO Pl m os s).2.ld m.toNat<most):=by
 intro os
 induction os with
 | nil=>intro s h;exact ⟨h,fun e=>by cases e⟩
 | cons o os ih =>
  intro s h
  rw [plO]
  split
  ·have:=hP o s h
   split
   ·rename_i s' e
    rw [e] at this
    refine ⟨LdLe.take this m o,fun _=>?_⟩
    show (if ((m.toNat:Nat):Int)=m then s'.ld m.toNat - 1 else s'.ld m.toNat)<most
    rw [if_pos (by omega)]
    have:=this m.toNat
    dsimp only at this
    omega
   ·rename_i s' e
    rw [e] at this
    exact ih s' this
  ·exact ih s h
theorem Wfc {most:Int} {n K:Nat} {Pl:Nat→DS→Bool × DS} (hP:∀ o s,LdLe most s→LdLe most (Pl o s).2):∀ (ms:List Int) (s:DS),(∀ m∈ms,0≤m)→LdLe most s→LdLe most (plM Pl most n K ms s).2:=by
 intro ms
 induction ms with
 | nil=>intro s _ h;exact h
 | cons m ms ih =>
  intro s hm h
  have hm0:=hm m (by simp)
  have ih:=fun s h=>ih s (fun x hx=>hm x (by simp [hx])) h
  rw [plM]
  split
  ·exact ih s h
  ·split
   ·rename_i hlt
    exact LdLe.give (s:=s.meet m) h hlt n
   ·have:=Zhj hP hm0 (List.range K) (s.meet m) h
    split
    ·rename_i s' e
     rw [e] at this
     exact LdLe.give this.1 (this.2 rfl) n
    ·rename_i s' e
     rw [e] at this
     exact ih s' this.1
theorem Uci {M:Nat→List Int} {most:Int} {K:Nat} (hM:∀ n,∀ m∈M n,0≤m):∀ (k n:Nat) (s:DS),LdLe most s→LdLe most (plD M most K k n s).2
 | 0,_,_,h=>h
 | k+1,n,s,h=>by
  rw [plD]
  exact Wfc (fun o s h=>Uci hM k o s h) (M n) s (hM n) h
theorem Udv {r:Rl} (ok:r.Ok) (h1:∀ x∈r.ntcs,x.times=1) {most:Int}:∀ (ns:List Nat) (s:DS),ns.Nodup→(∀ n∈ns,n<r.ntcs.length∧s.F n=[])→(∀ o,o<r.ntcs.length→(s.F o).length≤1)→DR r s→shN r most ns s=none →
  ∃ A:List Int,A.Nodup∧A≠[]∧(∀ x∈A,0≤x∧x<(r.men.toNat:Int))∧most*(A.length:Int)<(Xk (Ue r) r.ntcs.length A).length:=by
 intro ns
 induction ns with
 | nil=>intro s _ _ _ _ e;cases e
 | cons n ns ih =>
  intro s hnd hlt hone h e
  rw [List.nodup_cons] at hnd
  obtain ⟨hn,hFn⟩:=hlt n (by simp)
  obtain ⟨x,hx,hxo⟩:=Zag ok hn
  have ht:Zac r n=1:=by rw [Zan hx,h1 x (Qzg hx)];rfl
  rw [shN,ht,shT] at e
  have hs:=Va6 (most:=most) ok hn h
  rcases hp:plR r most n s with ⟨b,s1⟩
  rw [hp] at hs e
  dsimp only at hs
  cases b with
  | false =>
   have hm5:=ok.m5
   refine Yhu (s:=s.fresh) (Vr ok) hn h.fresh hone hFn ?_ (by omega) rfl hp
   rw [Zx hx]
   have h2:=hxo.le
   have h3:=hxo.t1
   intro e0
   rw [e0] at h2
   simp at h2
   omega
  | true =>
   dsimp only at e
   rw [shT] at e
   dsimp only at e
   refine ih s1 hnd.2 (fun k hk=>⟨(hlt k (by simp [hk])).1,?_⟩) (fun o ho=>?_) hs.inv e
   ·have:=hs.len k (hlt k (by simp [hk])).1
    have hne:k≠n:=fun e=>hnd.1 (e▸hk)
    rw [show s.fresh.F k=s.F k from rfl,(hlt k (by simp [hk])).2] at this
    simp [hne] at this
    exact this
   ·have:=hs.len o ho
    have h2:=hone o ho
    rw [show s.fresh.F o=s.F o from rfl] at this
    by_cases e:o=n
    ·subst e
     rw [hFn] at this
     simp at this
     omega
    ·simp [e] at this
     omega
theorem Ucf {r:Rl} (ok:r.Ok) (h1:∀ x∈r.ntcs,x.times=1) {most:Int} (h:Xt r most=none):∃ A:List Int,A.Nodup∧A≠[]∧(∀ x∈A,0≤x∧x<(r.men.toNat:Int))∧most*(A.length:Int)<(Xk (Ue r) r.ntcs.length A).length :=
 Udv ok h1 _ _ List.nodup_range (fun n hn=>⟨List.mem_range.1 hn,rfl⟩) (fun _ _=>by show ([]:List Int).length≤1;simp) (DR.zero r) h
theorem Vez {r:Rl} (ok:r.Ok) (n:Nat):∀ m∈Ue r n,0≤m:=fun m hm=>by
 rcases Qzn n r.ntcs.length with h | h
 ·exact (Vr ok n h m hm).1
 ·unfold Ue at hm
  rw [List.getElem?_eq_none h] at hm
  cases hm
theorem Yfo {r:Rl} (ok:r.Ok) {most:Int} {n:Nat}:∀ (t:Nat) (s s':DS),LdLe most s→shT r most n t s=some s'→LdLe most s':=by
 intro t
 induction t with
 | zero=>intro s s' h e;rw [shT] at e;obtain rfl:=Option.some.inj e;exact h
 | succ t ih =>
  intro s s' h e
  rw [shT] at e
  have:=Uci (M:=Ue r) (most:=most) (K:=r.ntcs.length) (Vez ok) 6 n s.fresh h
  split at e
  ·rename_i s1 e1
   rw [show plD (Ue r) most r.ntcs.length 6 n s.fresh=(true,s1) from e1] at this
   exact ih s1 s' this e
  ·cases e
theorem Zhb {r:Rl} (ok:r.Ok) {most:Int}:∀ (ns:List Nat) (s s':DS),LdLe most s→shN r most ns s=some s'→LdLe most s':=by
 intro ns
 induction ns with
 | nil=>intro s s' h e;rw [shN] at e;obtain rfl:=Option.some.inj e;exact h
 | cons n ns ih =>
  intro s s' h e
  rw [shN] at e
  split at e
  ·rename_i s1 e1
   exact ih s1 s' (Yfo ok _ s s1 h e1) e
  ·cases e
theorem Udw {r:Rl} (ok:r.Ok) {most:Int} (h0:0≤most) {s:DS} (h:Xt r most=some s):LdLe most s :=
 Zhb ok _ _ _ (fun _=>h0) h
structure Asg (M:Nat→List Int) (K:Nat) (f:Nat→Int):Prop where
 may:∀ i,i<K→f i∈M i
def ldA (K:Nat) (f:Nat→Int) (m:Int):Nat:=((List.range K).filter fun i=>f i == m).length
theorem Yb6 {M:Nat→List Int} {K:Nat} {f:Nat→Int} (h:Asg M K f) {b:Int} {A:List Int} (hb:∀ m∈A,(ldA K f m:Int)≤b):((Xk M K A).length:Int)≤b*(A.length:Int):=by
 refine Ze9 (f:=f) A (Xk M K A) (fun i hi=>?_) fun m hm=>?_
 ·unfold Xk at hi
  rw [List.mem_filter] at hi
  exact (of_decide_eq_true hi.2) _ (h.may i (List.mem_range.1 hi.1))
 ·have:=hb m hm
  refine Int.le_trans ?_ this
  unfold Xk ldA
  rw [List.filter_filter,show (fun a=>(f a == m)&&decide (∀ x∈M a,x∈A))=(fun a=>decide (∀ x∈M a,x∈A)&&(f a == m)) from funext fun a=>Bool.and_comm _ _,← List.filter_filter]
  exact Int.ofNat_le.2 (List.length_filter_le _ _)
structure LeastN (r:Rl) (n:Nat) (s:DS):Prop where
 is:Xt r n=some s
 no:∀ j:Nat,j<n→Xt r j=none
theorem LeastN.low {r:Rl} (ok:r.Ok) (h1:∀ x∈r.ntcs,x.times=1) {n:Nat} {s:DS} (h:LeastN r n s) {f:Nat→Int} (hf:Asg (Ue r) r.ntcs.length f) {b:Nat} (hb:∀ m:Int,0≤m→m<r.men→ldA r.ntcs.length f m≤b):n≤b:=by
 refine Nat.le_of_not_lt fun hlt=>?_
 have hm1:=ok.m1
 obtain ⟨A,a1,a2,a3,a4⟩:=Ucf ok h1 (h.no b hlt)
 have:=Yb6 hf (b:=b) (A:=A) fun m hm=>by have:=a3 m hm;exact Int.ofNat_le.2 (hb m this.1 (by omega))
 omega
theorem Ubq {l:List Int} (h:l.length=1):l=[l.headD 0]:=by
 match l,h with
 | [x],_=>rfl
theorem LeastN.share {r:Rl} (ok:r.Ok) (h1:∀ x∈r.ntcs,x.times=1) {n:Nat} {s:DS} (h:LeastN r n s):Asg (Ue r) r.ntcs.length (fun i=>(s.F i).headD 0)∧∀ m:Int,0≤m→m<r.men→ldA r.ntcs.length (fun i=>(s.F i).headD 0) m≤n:=by
 obtain ⟨p1,p2⟩:=Ube ok _ _ _ List.nodup_range (fun n hn=>List.mem_range.1 hn) (DR.zero r) h.is
 have hle:=Udw ok (by omega) h.is
 have hlen:∀ i,i<r.ntcs.length→(s.F i).length=1:=fun i hi=>by
  have:=p2 i hi
  obtain ⟨x,hx,hxo⟩:=Zag ok hi
  rw [if_pos (List.mem_range.2 hi),Zan hx,h1 x (Qzg hx),show DS.zero.F i=[] from rfl] at this
  simpa using this
 refine ⟨⟨fun i hi=>?_⟩,fun m h0 hm=>?_⟩
 ·have:=Ubq (hlen i hi)
  exact p1.sub i hi _ (by rw [this];simp)
 ·have h2:=p1.ld m.toNat (by omega)
  have h3:=hle m.toNat
  rw [show ((m.toNat:Nat):Int)=m by omega,Xbh] at h2
  have:ldA r.ntcs.length (fun i=>(s.F i).headD 0) m=((List.range r.ntcs.length).filter fun o=>decide (m∈s.F o)).length:=by
   unfold ldA
   congr 1
   apply List.filter_congr
   intro i hi
   have:=Ubq (hlen i (List.mem_range.1 hi))
   obtain ⟨x,hx⟩:∃ x,(s.F i).headD 0=x:=⟨_,rfl⟩
   dsimp only
   rw [hx] at this ⊢
   rw [this]
   by_cases e:x=m
   ·subst e;simp
   ·have e':¬ m=x:=fun h=>e h.symm
    simp [e,e']
  omega
theorem LeastN.tight {r:Rl} (ok:r.Ok) (h1:∀ x∈r.ntcs,x.times=1) {n:Nat} {s:DS} (h:LeastN r n s) (hn:1≤n):∃ A:List Int,A.Nodup∧A≠[]∧(∀ x∈A,0≤x∧x<(r.men.toNat:Int))∧((n:Int) - 1)*(A.length:Int)<(Xk (Ue r) r.ntcs.length A).length:=by
 have:=Ucf ok h1 (h.no (n - 1) (by omega))
 rw [show ((n - 1:Nat):Int)=(n:Int) - 1 by omega] at this
 exact this
theorem LeastN.most {r:Rl} (ok:r.Ok) (h1:∀ x∈r.ntcs,x.times=1) {n:Nat} {s:DS} (h:LeastN r n s) {A:List Int} (hA:∀ x∈A,0≤x∧x<r.men):((Xk (Ue r) r.ntcs.length A).length:Int)≤(n:Int)*(A.length:Int):=by
 obtain ⟨q1,q2⟩:=h.share ok h1
 exact Yb6 q1 fun m hm=>Int.ofNat_le.2 (q2 m (hA m hm).1 (hA m hm).2)
end Ab

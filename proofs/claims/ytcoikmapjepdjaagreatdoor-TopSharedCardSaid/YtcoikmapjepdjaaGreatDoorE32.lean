/-
  Texts packed for a claim.
-/
import Derived.Test.YtcoikmapjepdjaaGreatDoorE00
import Derived.Test.YtcoikmapjepdjaaGreatDoorE22
import Derived.Test.YtcoikmapjepdjaaGreatDoorE24
import Derived.Test.YtcoikmapjepdjaaGreatDoorE31
set_option linter.all false
namespace Ab
open Go Go.RowKit Go.Proofs
structure DS where
 F:Nat→List Int
 ld:Nat→Int
 met:List Int
def DS.give (s:DS) (m:Int) (n:Nat):DS:={ s with F:=fun k=>if k=n then s.F k++[m] else s.F k,ld:=fun k=>if (k:Int)=m then s.ld k+1 else s.ld k }
def DS.take (s:DS) (m:Int) (n:Nat):DS:={ s with F:=fun k=>if k=n then (s.F k).filter (fun x=>x != m) else s.F k,ld:=fun k=>if (k:Int)=m then s.ld k - 1 else s.ld k }
def DS.meet (s:DS) (m:Int):DS:={ s with met:=s.met++[m] }
def plO (Pl:Nat→DS→Bool × DS) (m:Int):List Nat→DS→Bool × DS
 | [],s=>(false,s)
 | o::os,s=>if m∈s.F o then (match Pl o s with
  | (true,s')=>(true,s'.take m o)
  | (false,s')=>plO Pl m os s') else plO Pl m os s
def plM (Pl:Nat→DS→Bool × DS) (most:Int) (n K:Nat):List Int→DS→Bool × DS
 | [],s=>(false,s)
 | m::ms,s=>if m∈s.met∨m∈s.F n then plM Pl most n K ms s else
  if s.ld m.toNat<most then (true,(s.meet m).give m n) else match plO Pl m (List.range K) (s.meet m) with
  | (true,s')=>(true,s'.give m n)
  | (false,s')=>plM Pl most n K ms s'
def plD (M:Nat→List Int) (most:Int) (K:Nat):Nat→Nat→DS→Bool × DS
 | 0,_,s=>(false,s)
 | k+1,n,s=>plM (plD M most K k) most n K (M n) s
def cntF (F:Nat→List Int) (m:Int):Nat→Int
 | 0=>0
 | k+1=>cntF F m k+if m∈F k then 1 else 0
theorem Xba (F:Nat→List Int) (m:Int):∀ k,0≤cntF F m k∧cntF F m k≤k
 | 0=>by simp [cntF]
 | k+1=>by have:=Xba F m k;rw [cntF];split<;>omega
theorem Vgf {F:Nat→List Int} {m:Int} {n:Nat} (h:m∉F n):∀ k,n<k→cntF F m k<k:=by
 intro k
 induction k with
 | zero=>intro h;omega
 | succ k ih =>
  intro hk
  rw [cntF]
  by_cases e:n=k
  ·subst e
   rw [if_neg h]
   have:=Xba F m n;omega
  ·have:=ih (by omega)
   split<;>omega
theorem Ua1 {F F':Nat→List Int} {m:Int}:∀ k,(∀ n,n<k→(m∈F' n↔m∈F n))→cntF F' m k=cntF F m k
 | 0,_=>rfl
 | k+1,h=>by
  rw [cntF,cntF,Ua1 k (fun n hn=>h n (by omega))]
  have:=h k (by omega)
  by_cases e:m∈F k
  ·rw [if_pos e,if_pos (this.2 e)]
  ·rw [if_neg e,if_neg (fun h=>e (this.1 h))]
theorem Wbx {F F':Nat→List Int} {m:Int} {n:Nat} (h1:m∉F n) (h2:m∈F' n):∀ k,n<k→(∀ n',n'<k→n'≠n→(m∈F' n'↔m∈F n'))→cntF F' m k=cntF F m k+1:=by
 intro k
 induction k with
 | zero=>intro h;omega
 | succ k ih =>
  intro hk h
  rw [cntF,cntF]
  by_cases e:n=k
  ·subst e
   rw [if_pos h2,if_neg h1,Ua1 n (fun n' hn=>h n' (by omega) (by omega))]
   omega
  ·rw [ih (by omega) (fun n' hn hne=>h n' (by omega) hne)]
   have:=h k (by omega) (fun e'=>e e'.symm)
   by_cases e:m∈F k
   ·rw [if_pos e,if_pos (this.2 e)]
   ·rw [if_neg e,if_neg (fun h=>e (this.1 h))];omega
structure DI (M:Nat→List Int) (men K:Nat) (s:DS):Prop where
 nd:∀ n,n<K→(s.F n).Nodup
 sub:∀ n,n<K→∀ x∈s.F n,x∈M n
 ld:∀ m,m<men→s.ld m=cntF s.F m K
 mnd:s.met.Nodup
 mlt:∀ x∈s.met,0≤x∧x<(men:Int)
theorem DI.meet {M:Nat→List Int} {men K:Nat} {s:DS} (h:DI M men K s) {m:Int} (hm:0≤m∧m<(men:Int)) (hn:m∉s.met):DI M men K (s.meet m) :=
 ⟨h.nd,h.sub,h.ld,by
  show (s.met++[m]).Nodup
  rw [List.nodup_append]
  exact ⟨h.mnd,by simp,fun x hx y hy e=>by simp at hy;subst hy;exact hn (e▸hx)⟩,fun x hx=>by
  rcases List.mem_append.1 (show x∈s.met++[m] from hx) with h1 | h1
  ·exact h.mlt x h1
  ·simp at h1;subst h1;exact hm⟩
theorem give_mem {s:DS} {m x:Int} {n k:Nat}:x∈(s.give m n).F k↔x∈s.F k∨k=n∧x=m:=by
 show x∈(if k=n then s.F k++[m] else s.F k)↔_
 split
 ·rename_i e;simp [e]
 ·rename_i e;simp [e]
theorem take_mem {s:DS} {m x:Int} {n k:Nat}:x∈(s.take m n).F k↔x∈s.F k∧¬ (k=n∧x=m):=by
 show x∈(if k=n then (s.F k).filter (fun x=>x != m) else s.F k)↔_
 split
 ·rename_i e;simp [e]
 ·rename_i e;simp [e]
theorem DI.give {M:Nat→List Int} {men K:Nat} {s:DS} (h:DI M men K s) {m:Int} {n:Nat} (hn:n<K) (hm:m∈M n) (h0:0≤m) (hno:m∉s.F n):DI M men K (s.give m n):=by
 refine ⟨fun k hk=>?_,fun k hk x hx=>?_,fun m' hm'=>?_,h.mnd,h.mlt⟩
 ·show (if k=n then s.F k++[m] else s.F k).Nodup
  split
  ·rename_i e
   subst e
   rw [List.nodup_append]
   exact ⟨h.nd k hk,by simp,fun x hx y hy e=>by simp at hy;subst hy;exact hno (e▸hx)⟩
  ·exact h.nd k hk
 ·rcases give_mem.1 hx with h1 | ⟨rfl,rfl⟩
  ·exact h.sub k hk x h1
  ·exact hm
 ·show (if (m':Int)=m then s.ld m'+1 else s.ld m')=_
  split
  ·rename_i e
   rw [h.ld m' hm',e,Wbx (F:=s.F) (F':=(s.give m n).F) hno (give_mem.2 (.inr ⟨rfl,rfl⟩)) K hn (fun k hk hne=>by rw [give_mem];simp [hne])]
  ·rename_i e
   rw [h.ld m' hm',Ua1 (F:=s.F) (F':=(s.give m n).F) K (fun k hk=>by rw [give_mem];simp [e])]
theorem DI.take {M:Nat→List Int} {men K:Nat} {s:DS} (h:DI M men K s) {m:Int} {n:Nat} (hn:n<K) (hin:m∈s.F n):DI M men K (s.take m n):=by
 refine ⟨fun k hk=>?_,fun k hk x hx=>h.sub k hk x (take_mem.1 hx).1,fun m' hm'=>?_,h.mnd,h.mlt⟩
 ·show (if k=n then (s.F k).filter (fun x=>x != m) else s.F k).Nodup
  split
  ·exact (h.nd k hk).filter _
  ·exact h.nd k hk
 ·show (if (m':Int)=m then s.ld m' - 1 else s.ld m')=_
  split
  ·rename_i e
   rw [h.ld m' hm',e,Wbx (F:=(s.take m n).F) (F':=s.F) (n:=n) (fun hx=>(take_mem.1 hx).2 ⟨rfl,rfl⟩) hin K hn (fun k hk hne=>by rw [take_mem];simp [hne])]
   omega
  ·rename_i e
   rw [h.ld m' hm',Ua1 (F:=s.F) (F':=(s.take m n).F) K (fun k hk=>by rw [take_mem];simp [e])]
theorem Wer {l:List Int} {m:Int} (hn:l.Nodup) (h:m∈l):(l.filter (fun x=>x != m)).length+1=l.length:=by
 induction l with
 | nil=>simp at h
 | cons x l ih =>
  rw [List.nodup_cons] at hn
  by_cases e:x=m
  ·subst e
   rw [List.filter_cons_of_neg (by simp),List.filter_eq_self.2 (fun y hy=>by simp;intro e;subst e;exact hn.1 hy)]
   simp
  ·rw [List.filter_cons_of_pos (by simpa using e)]
   rcases List.mem_cons.1 h with h1 | h1
   ·exact absurd h1.symm e
   ·have:=ih hn.2 h1
    rw [List.length_cons,List.length_cons];omega
structure PlS (M:Nat→List Int) (men K:Nat) (q:Int) (n:Nat) (s:DS) (b:Bool) (s':DS):Prop where
 inv:DI M men K s'
 len:∀ k,k<K→(s'.F k).length=(s.F k).length+if b=true∧k=n then 1 else 0
 stay:∀ m∈s.met,m≠q→∀ k,k<K→(m∈s'.F k↔m∈s.F k)
 met:∃ x,s'.met=s.met++x
theorem PlS.refl {M:Nat→List Int} {men K n:Nat} {q:Int} {s:DS} (h:DI M men K s):PlS M men K q n s false s:=⟨h,fun k hk=>by simp,fun _ _ _ _ _=>Iff.rfl,⟨[],by simp⟩⟩
theorem PlS.trans {M:Nat→List Int} {men K n n':Nat} {q:Int} {s s' s'':DS} {b:Bool} (h:PlS M men K q n' s false s') (h':PlS M men K q n s' b s''):PlS M men K q n s b s'':=by
 obtain ⟨x,hx⟩:=h.met
 obtain ⟨y,hy⟩:=h'.met
 refine ⟨h'.inv,fun k hk=>?_,fun m hm hq k hk=>?_,⟨x++y,by rw [hy,hx,List.append_assoc]⟩⟩
 ·have h1:=h.len k hk
  have h2:=h'.len k hk
  simp at h1
  rw [h2,h1]
 ·rw [h'.stay m (by rw [hx];simp [hm]) hq k hk,h.stay m hm hq k hk]
theorem PlS.meet {M:Nat→List Int} {men K n:Nat} {q:Int} {s s':DS} {b:Bool} {m:Int} (h:PlS M men K q n (s.meet m) b s'):PlS M men K q n s b s':=by
 obtain ⟨x,hx⟩:=h.met
 exact ⟨h.inv,h.len,fun m' hm' hq k hk=>h.stay m' (List.mem_append_left _ hm') hq k hk,⟨[m]++x,by rw [hx];show s.met++[m]++x=_;simp⟩⟩
theorem PlS.any {M:Nat→List Int} {men K n:Nat} {q q':Int} {s s':DS} {b:Bool} (h:PlS M men K q n s b s') (hq:q∉s.met∨q'=q):PlS M men K q' n s b s' :=
 ⟨h.inv,h.len,fun m hm hne k hk=>h.stay m hm (fun e=>by rcases hq with h1 | h1;exact h1 (e▸hm);exact hne (e.trans h1.symm)) k hk,h.met⟩
theorem Wf0 {M:Nat→List Int} {men K n:Nat} (hnK:n<K) {Pl:Nat→DS→Bool × DS} (hP:∀ o s,o<K→DI M men K s→PlS M men K (-1) o s (Pl o s).1 (Pl o s).2) {m:Int} (hm0:0≤m) :
  ∀ (os:List Nat) (s:DS),(∀ o∈os,o<K)→DI M men K s→m∈s.met→m∉s.F n→PlS M men K m n s false (plO Pl m os s).2∧m∉(plO Pl m os s).2.F n:=by
 intro os
 induction os with
 | nil=>intro s _ h _ hn;exact ⟨PlS.refl h,hn⟩
 | cons o os ih =>
  intro s ho h hm hn
  have hq:m≠-1:=by omega
  rw [plO]
  split
  ·rename_i hin
   have hs:=hP o s (ho o (by simp)) h
   have hon:n≠o:=fun e=>hn (e▸hin)
   split
   ·rename_i s' e
    rw [e] at hs
    dsimp only at hs
    have hin':m∈s'.F o:=(hs.stay m hm hq o (ho o (by simp))).2 hin
    refine ⟨⟨hs.inv.take (ho o (by simp)) hin',fun k hk=>?_,fun x hx hxm k hk=>?_,hs.met⟩,?_⟩
    ·have hl:=hs.len k hk
     show (if k=o then (s'.F k).filter (fun x=>x != m) else s'.F k).length=_
     by_cases e:k=o
     ·subst e
      rw [if_pos rfl]
      simp at hl
      have:=Wer (hs.inv.nd k hk) hin'
      rw [if_neg (by simp)];omega
     ·rw [if_neg e]
      simp [e] at hl
      simp [hl]
    ·have:=hs.stay x hx (by have:=h.mlt x hx;omega) k hk
     rw [take_mem,this];simp [hxm]
    ·rw [take_mem,hs.stay m hm hq n hnK]
     exact fun h=>hn h.1
   ·rename_i s' e
    rw [e] at hs
    dsimp only at hs
    have hm':m∈s'.met:=by obtain ⟨x,hx⟩:=hs.met;rw [hx];simp [hm]
    obtain ⟨i1,i2⟩:=ih s' (fun o' ho'=>ho o' (by simp [ho'])) hs.inv hm' (fun h1=>hn ((hs.stay m hm hq n hnK).1 h1))
    exact ⟨(hs.any (.inl fun h1=>by have:=h.mlt _ h1;omega)).trans i1,i2⟩
  ·exact ih s (fun o' ho'=>ho o' (by simp [ho'])) h hm hn
theorem Ugn {M:Nat→List Int} {men K n:Nat} (hnK:n<K) {Pl:Nat→DS→Bool × DS} (hP:∀ o s,o<K→DI M men K s→PlS M men K (-1) o s (Pl o s).1 (Pl o s).2) {most:Int} :
  ∀ (ms:List Int) (s:DS),(∀ m∈ms,m∈M n∧0≤m∧m<(men:Int))→DI M men K s→PlS M men K (-1) n s (plM Pl most n K ms s).1 (plM Pl most n K ms s).2:=by
 intro ms
 induction ms with
 | nil=>intro s _ h;exact PlS.refl h
 | cons m ms ih =>
  intro s hms h
  have ih':=fun s=>ih s (fun x hx=>hms x (by simp [hx]))
  obtain ⟨hm,h0,hlt⟩:=hms m (by simp)
  have give:∀ {s':DS},PlS M men K m n (s.meet m) false s'→m∉s.met→m∉s'.F n→PlS M men K (-1) n s true (s'.give m n):=fun {s'} hs hno hn=>by
   have hs:=hs.meet
   have hs:=hs.any (q':=-1) (.inl hno)
   refine ⟨hs.inv.give hnK hm h0 hn,fun k hk=>?_,fun x hx hq k hk=>?_,hs.met⟩
   ·have hl:=hs.len k hk
    show (if k=n then s'.F k++[m] else s'.F k).length=_
    simp at hl
    by_cases e:k=n
    ·rw [if_pos e];simp [e];rw [← e,hl]
    ·rw [if_neg e];simp [e,hl]
   ·rw [give_mem,hs.stay x hx hq k hk]
    have:x≠m:=fun e=>hno (e▸hx)
    simp [this]
  rw [plM]
  split
  ·exact ih' s h
  ·rename_i hno
   have h1:m∉s.met:=fun h=>hno (.inl h)
   have h2:m∉s.F n:=fun h=>hno (.inr h)
   have hmt:=h.meet ⟨h0,hlt⟩ h1
   split
   ·exact give (PlS.refl hmt) h1 h2
   ·have hO:=Wf0 hnK hP h0 (List.range K) (s.meet m) (fun o ho=>List.mem_range.1 ho) hmt (by show m∈s.met++[m];simp) h2
    split
    ·rename_i s' e
     rw [e] at hO
     exact give hO.1 h1 hO.2
    ·rename_i s' e
     rw [e] at hO
     exact (hO.1.meet.any (q':=-1) (.inl h1)).trans (ih' s' hO.1.inv)
theorem Zca {M:Nat→List Int} {men K:Nat} {most:Int} (hM:∀ n,n<K→∀ m∈M n,0≤m∧m<(men:Int)):∀ (k n:Nat) (s:DS),n<K→DI M men K s→PlS M men K (-1) n s (plD M most K k n s).1 (plD M most K k n s).2:=by
 intro k
 induction k with
 | zero=>intro n s _ h;exact PlS.refl h
 | succ k ih =>
  intro n s hn h
  exact Ugn hn (fun o s ho hs=>ih o s ho hs) (M n) s (fun m hm=>⟨hm,hM n hn m hm⟩) h
theorem Xdi {M:Nat→List Int} {men K n:Nat} {Pl:Nat→DS→Bool × DS} {most:Int} (hK:(K:Int)≤most) (hnK:n<K):∀ (ms:List Int) (s:DS),(∀ m∈ms,0≤m∧m<(men:Int))→DI M men K s→(∃ m∈ms,m∉s.met∧m∉s.F n)→(plM Pl most n K ms s).1=true:=by
 intro ms
 induction ms with
 | nil=>rintro s _ _ ⟨m,h,_⟩;simp at h
 | cons m ms ih =>
  rintro s hms h ⟨x,hx,hx1,hx2⟩
  rw [plM]
  split
  ·rename_i hno
   rcases List.mem_cons.1 hx with e | e
   ·subst e;rcases hno with h1 | h1
    ·exact absurd h1 hx1
    ·exact absurd h1 hx2
   ·exact ih s (fun y hy=>hms y (by simp [hy])) h ⟨x,e,hx1,hx2⟩
  ·rename_i hno
   have h0:=hms m (by simp)
   have hld:=h.ld m.toNat (by omega)
   rw [show ((m.toNat:Nat):Int)=m by omega] at hld
   have:=Vgf (F:=s.F) (m:=m) (n:=n) (fun h=>hno (.inr h)) K hnK
   rw [if_pos (by omega)]
end Ab
namespace Ab
open Go Go.RowKit Go.Proofs
def DS.fresh (s:DS):DS:={ s with met:=[] }
def DS.zero:DS:=⟨fun _=>[],fun _=>0,[]⟩
def Ue (r:Rl) (n:Nat):List Int:=((r.ntcs[n]?).map Ntc.men).getD []
def Zac (r:Rl) (n:Nat):Nat:=((r.ntcs[n]?).map fun x=>x.times.toNat).getD 0
def plR (r:Rl) (most:Int) (n:Nat) (s:DS):Bool × DS:=plD (Ue r) most r.ntcs.length 6 n s.fresh
def shT (r:Rl) (most:Int) (n:Nat):Nat→DS→Option DS
 | 0,s=>some s
 | t+1,s=>match plR r most n s with
  | (true,s')=>shT r most n t s'
  | (false,_)=>none
def shN (r:Rl) (most:Int):List Nat→DS→Option DS
 | [],s=>some s
 | n::ns,s=>match shT r most n (Zac r n) s with
  | some s'=>shN r most ns s'
  | none=>none
def Xt (r:Rl) (most:Int):Option DS:=shN r most (List.range r.ntcs.length) DS.zero
theorem Zx {r:Rl} {n:Nat} {x:Ntc} (h:r.ntcs[n]? = some x):Ue r n=x.men:=by unfold Ue;rw [h];rfl
theorem Zan {r:Rl} {n:Nat} {x:Ntc} (h:r.ntcs[n]? = some x):Zac r n=x.times.toNat:=by unfold Zac;rw [h];rfl
theorem Zag {r:Rl} (ok:r.Ok) {n:Nat} (hn:n<r.ntcs.length):∃ x,r.ntcs[n]? = some x∧x.Ok r.men:=⟨_,Qze hn,ok.each _ (List.getElem_mem hn)⟩
theorem Vr {r:Rl} (ok:r.Ok) (n:Nat) (hn:n<r.ntcs.length):∀ m∈Ue r n,0≤m∧m<(r.men.toNat:Int):=fun m hm=>by
 obtain ⟨x,hx,hxo⟩:=Zag ok hn
 rw [Zx hx] at hm
 have:=hxo.mem m hm
 have:=ok.m1
 omega
abbrev DR (r:Rl) (s:DS):Prop:=DI (Ue r) r.men.toNat r.ntcs.length s
theorem DI.fresh {M:Nat→List Int} {men K:Nat} {s:DS} (h:DI M men K s):DI M men K s.fresh:=⟨h.nd,h.sub,h.ld,by show ([]:List Int).Nodup;simp,fun x hx=>by cases hx⟩
theorem Vbr (m:Int):∀ k,cntF DS.zero.F m k=0
 | 0=>rfl
 | k+1=>by rw [cntF,Vbr m k,if_neg (by show m∉([]:List Int);simp)];rfl
theorem DR.zero (r:Rl):DR r DS.zero:=⟨fun _ _=>by show ([]:List Int).Nodup;simp,fun _ _ x hx=>(by cases hx),fun m _=>(by rw [Vbr];rfl),by show ([]:List Int).Nodup;simp,fun x hx=>(by cases hx)⟩
theorem Va6 {r:Rl} (ok:r.Ok) {most:Int} {n:Nat} {s:DS} (hn:n<r.ntcs.length) (h:DR r s):PlS (Ue r) r.men.toNat r.ntcs.length (-1) n s.fresh (plR r most n s).1 (plR r most n s).2 :=
 Zca (Vr ok) 6 n s.fresh hn h.fresh
theorem Vb7 {r:Rl} (ok:r.Ok) {most:Int} {n:Nat} (hn:n<r.ntcs.length):∀ (t:Nat) (s s':DS),DR r s→shT r most n t s=some s'→DR r s'∧∀ k,k<r.ntcs.length→(s'.F k).length=(s.F k).length+if k=n then t else 0:=by
 intro t
 induction t with
 | zero=>intro s s' h e;rw [shT] at e;obtain rfl:=Option.some.inj e;exact ⟨h,fun k hk=>by simp⟩
 | succ t ih =>
  intro s s' h e
  rw [shT] at e
  have hs:=Va6 (most:=most) ok hn h
  split at e
  ·rename_i s1 e1
   rw [e1] at hs
   dsimp only at hs
   obtain ⟨q1,q2⟩:=ih s1 s' hs.inv e
   refine ⟨q1,fun k hk=>?_⟩
   have h1:=q2 k hk
   have h2:=hs.len k hk
   have h3:(s.fresh.F k).length=(s.F k).length:=rfl
   by_cases e:k=n
   ·simp [e] at h1 h2 h3 ⊢;omega
   ·simp [e] at h1 h2 h3 ⊢;omega
  ·cases e
theorem Ube {r:Rl} (ok:r.Ok) {most:Int}:∀ (ns:List Nat) (s s':DS),ns.Nodup→(∀ n∈ns,n<r.ntcs.length)→DR r s→shN r most ns s=some s'→DR r s'∧∀ k,k<r.ntcs.length→(s'.F k).length=(s.F k).length+if k∈ns then Zac r k else 0:=by
 intro ns
 induction ns with
 | nil=>intro s s' _ _ h e;rw [shN] at e;obtain rfl:=Option.some.inj e;exact ⟨h,fun k hk=>by simp⟩
 | cons n ns ih =>
  intro s s' hnd hlt h e
  rw [List.nodup_cons] at hnd
  rw [shN] at e
  split at e
  ·rename_i s1 e1
   obtain ⟨p1,p2⟩:=Vb7 ok (hlt n (by simp)) _ _ _ h e1
   obtain ⟨q1,q2⟩:=ih s1 s' hnd.2 (fun n hn=>hlt n (by simp [hn])) p1 e
   refine ⟨q1,fun k hk=>?_⟩
   rw [q2 k hk,p2 k hk]
   by_cases e:k=n
   ·subst e;simp [hnd.1]
   ·simp [e]
  ·cases e
theorem Vfz {r:Rl} (ok:r.Ok) {most:Int} {s:DS} (h:Xt r most=some s) {S:List (List Int)} (hl:S.length=r.ntcs.length) (hS:∀ (n:Nat) (l:List Int),S[n]? = some l→l.Perm (s.F n)∧l.Pairwise (·≤·)):ShOk r S:=by
 obtain ⟨h1,h2⟩:=Ube ok _ _ _ List.nodup_range (fun n hn=>List.mem_range.1 hn) (DR.zero r) h
 refine ⟨hl,fun i l n hi hn=>?_⟩
 have hi':i<r.ntcs.length:=(Qzs.1 hn).1
 obtain ⟨hp,hs⟩:=hS i l hi
 have hlen:=h2 i hi'
 have hno:=ok.each n (Qzg hn)
 rw [if_pos (List.mem_range.2 hi'),Zan hn,show DS.zero.F i=[] from rfl] at hlen
 have t1:=hno.t1
 have hpl:=hp.length_eq
 simp at hlen
 refine ⟨by omega,?_,fun x hx=>?_⟩
 ·have hnd:l.Nodup:=hp.nodup_iff.2 (h1.nd i hi')
  exact (hs.and hnd).imp fun {a b} h=>by have:=h.1;have:=h.2;omega
 ·have:=h1.sub i hi' x (hp.mem_iff.1 hx)
  rwa [Zx hn] at this
theorem Wct {r:Rl} (ok:r.Ok) {most:Int} (hb:(r.ntcs.length:Int)≤most) {n:Nat} {s:DS} (hn:n<r.ntcs.length) (h:DR r s) (hl:(s.F n).length<Zac r n):(plR r most n s).1=true:=by
 obtain ⟨x,hx,hxo⟩:=Zag ok hn
 refine Xdi (men:=r.men.toNat) hb hn _ _ (Vr ok n hn) h.fresh ?_
 refine Classical.byContradiction fun hno=>?_
 have hall:∀ m∈Ue r n,m∈s.F n:=fun m hm=>Classical.byContradiction fun h=>hno ⟨m,hm,by show m∉([]:List Int);simp,h⟩
 have hnd:(Ue r n).Nodup:=by rw [Zx hx];exact hxo.srt.imp fun {a b} h e=>by omega
 have:=Ws _ _ hnd hall
 have h3:=hxo.le
 have h1:=hxo.t1
 rw [Zx hx] at this
 rw [Zan hx] at hl
 omega
theorem Yfl {r:Rl} (ok:r.Ok) {most:Int} (hb:(r.ntcs.length:Int)≤most) {n:Nat} (hn:n<r.ntcs.length):∀ (t:Nat) (s:DS),DR r s→(s.F n).length+t≤Zac r n→∃ s',shT r most n t s=some s':=by
 intro t
 induction t with
 | zero=>intro s _ _;exact ⟨s,rfl⟩
 | succ t ih =>
  intro s h hl
  have hb:=Wct ok hb hn h (by omega)
  have hs:=Va6 (most:=most) ok hn h
  rw [shT]
  rcases e:plR r most n s with ⟨b,s1⟩
  rw [e] at hb hs
  dsimp only at hb hs
  subst hb
  refine ih s1 hs.inv ?_
  have:=hs.len n hn
  have h3:(s.fresh.F n).length=(s.F n).length:=rfl
  simp at this
  omega
theorem Ufe {r:Rl} (ok:r.Ok) {most:Int} (hb:(r.ntcs.length:Int)≤most):∀ (ns:List Nat) (s:DS),ns.Nodup→(∀ n∈ns,n<r.ntcs.length∧s.F n=[])→DR r s→∃ s',shN r most ns s=some s':=by
 intro ns
 induction ns with
 | nil=>intro s _ _ _;exact ⟨s,rfl⟩
 | cons n ns ih =>
  intro s hnd hlt h
  rw [List.nodup_cons] at hnd
  obtain ⟨s1,e1⟩:=Yfl ok hb (hlt n (by simp)).1 (Zac r n) s h (by rw [(hlt n (by simp)).2];simp)
  obtain ⟨p1,p2⟩:=Vb7 ok (hlt n (by simp)).1 _ _ _ h e1
  rw [shN,e1]
  refine ih s1 hnd.2 (fun k hk=>⟨(hlt k (by simp [hk])).1,?_⟩) p1
  have:=p2 k (hlt k (by simp [hk])).1
  have hne:k≠n:=fun e=>hnd.1 (e▸hk)
  rw [(hlt k (by simp [hk])).2] at this
  simp [hne] at this
  exact this
theorem Vhw {r:Rl} (ok:r.Ok) {most:Int} (hb:(r.ntcs.length:Int)≤most):∃ s,Xt r most=some s :=
 Ufe ok hb _ _ List.nodup_range (fun n hn=>⟨List.mem_range.1 hn,rfl⟩) (DR.zero r)
end Ab
namespace Ab
open Go Go.RowKit Go.Proofs
theorem Xy (l:List Int):(Ya l).length=l.length:=by simp [Ya]
theorem Zch {l:List Int} {i:Nat} (h:i<l.length):(Ya l)[i]? = some (.int .i64 l[i]):=by simp [Ya,h]
theorem Zb4 (l:List Int) (m x:Int):(l++[x]).filter (fun y=>y != m)=if x=m then l.filter (fun y=>y != m) else l.filter (fun y=>y != m)++[x]:=by
 rw [List.filter_append,List.filter_cons]
 by_cases h:x=m<;>simp [h]
theorem filter_all {l:List Int} {m:Int} (h:∀ x∈l,x≠m):l.filter (fun y=>y != m)=l:=List.filter_eq_self.2 fun x hx=>by simpa using h x hx
attribute [local irreducible] aws awp aw1 Og Om Oc Oa Ogd Ov Ot awd Ua awh Xb Ogh Ohd awl Ogl Ohl awv Ogv Ohv Wb Vb QFn Zc Vg QRo QBe Yf Yg ACode AYield
theorem Zfj {r i n:Nat} {cs:List AV} {σ:Za} (hr:σ[r]? = some (.cells cs)) (hc:cs.length=n) (hi:i<n) :
  ∃ tl,tl.length=n - i∧Vu Tryz.prog #[32] (.arr 1 r i (n - i)) σ=some (.tup [],σ.set r (.cells (cs.take i++tl))):=by
 have he:Uc Tryz.prog 32=some 3:=by simp
 have hs:tsa Tryz.prog 3=some (1,false):=by simp
 have hz:Xs Tryz.prog 3 (n - i)=some (List.replicate (n - i) [AV.int .i64 0]).flatten:=by
  rw [Zb2]
  simp
 have hl:((List.replicate (n - i) [AV.int .i64 0]).flatten).length=n - i:=by simp
 refine ⟨_,hl,?_⟩
 have hall:((List.replicate (n - i) [AV.int .i64 0]).flatten).all AV.one=true:=by
  rw [List.all_eq_true]
  intro x hx
  rw [List.mem_flatten] at hx
  obtain ⟨l,h1,h2⟩:=hx
  rw [List.mem_replicate] at h1
  rw [h1.2] at h2
  simp at h2
  rw [h2];rfl
 simp only [Vu,he,hs,hz,hr]
 rw [if_pos ⟨trivial,by omega,hall⟩]
 have:wr cs (i*1) (List.replicate (n - i) [AV.int .i64 0]).flatten=cs.take i++(List.replicate (n - i) [AV.int .i64 0]).flatten:=by
  unfold wr
  rw [hl,List.drop_eq_nil_of_le (by rw [hc];omega),List.append_nil,Nat.mul_one]
 rw [this]
theorem Vcf (x m:Int) (q:Nat) (σ:Za) (hq:σ[q]? = some (.cells [.int .i64 m])):ACalls Tryz.prog 331 [.int .i64 x,.ptr q 0] σ fun v s=>v=.bool (decide (x=m))∧s=σ:=by
 refine Yb Tryz.func331 rfl (Zb Tryz.func331 (by decide) rfl) ?_
 simp [Tryz.ntmps331,hq]
set_option maxHeartbeats 2000000 in
theorem Zfh {r q:Nat} (X:List Int) (m:Int) (hn:X.length≤2^40) (σ:Za) (hr:σ[r]? = some (.cells (Ya X))) (hq:σ[q]? = some (.cells [.int .i64 m])) :
  ACalls Tryz.prog 152 [.arr 1 r 0 X.length,.fn (.func 331) [] [.ptr q 0]] σ fun v σ'=>σ'=σ∧((v=.int .i64 (-1)∧∀ x∈X,x≠m)∨∃ (i:Nat) (h:i<X.length),v=.int .i64 i∧X[i]=m∧∀ x∈X.take i,x≠m):=by
 refine Yb Tryz.func152 rfl (Zb Tryz.func152 (by decide) rfl) ?_
 have hlen:=Xy X
 simp [Tryz.ntmps152]
 refine Wd (fun env σ'=>∃ (u:List AV) (i:Nat),env={ t:=u }∧u.length=19∧tg u 0=.arr 1 r 0 X.length∧tg u 1=.fn (.func 331) [] [.ptr q 0]∧tg u 7=.int .i64 X.length∧tg u 8=.int .i64 i∧σ'=σ∧i≤X.length∧∀ x∈X.take i,x≠m)
  (fun env _=>match tg env.t 8 with | .int _ i=>X.length - i.toNat | _=>0) ⟨_,0,rfl,by simp,by simp,by simp,by simp,by simp,rfl,by omega,by simp⟩ ?_
 rintro env _ ⟨u,i,rfl,hl,g0,g1,g7,g8,rfl,hi,hno⟩
 rcases Qzn i X.length with hlt | hge
 ·have hlt':(i:Int)<(X.length:Int):=by omega
  have hx:=w64 (n:=(i:Int)+1) (by omega) (by omega)
  have hil:i<(Ya X).length:=by omega
  have hix:=Zch hlt
  have hix':(Ya X)[i]'hil=.int .i64 X[i]:=by simp [Ya]
  have hlt2:i+1≤X.length:=hlt
  simp [-AV.one,hl,g0,g1,g7,g8,hlt',hlt,hr,hlen,hix,hix',hil,hlt2]
  refine StA.of ((Vcf X[i] m q _ hq).mono ?_)
  rintro _ _ ⟨rfl,rfl⟩
  by_cases he:X[i]=m
  ·simp [-AV.one,hl,g0,g1,g7,g8,hlt',hlt,he]
   exact ⟨i,rfl,⟨hlt,he⟩,hno⟩
  ·simp [-AV.one,hl,g0,g1,g7,g8,hlt',hlt,he,hx]
   refine ⟨⟨i+1,by simp,by omega,fun a hm=>?_⟩,by omega⟩
   rw [Qzt hlt] at hm
   rcases List.mem_append.1 hm with hm | hm
   ·exact hno a hm
   ·rw [List.mem_singleton] at hm
    rw [hm]
    exact he
 ·have hge':¬ (i:Int)<(X.length:Int):=by omega
  rw [List.take_of_length_le hge] at hno
  simp [-AV.one,hl,g0,g1,g7,g8,hge']
  first | exact .inl hno | exact hno | (intro h;exact absurd hno h)
def Wp (X:List Int) (m:Int):List Int:=X.filter (fun y=>y != m)
set_option maxHeartbeats 4000000 in
theorem Xf5 {r t:Nat} (X:List Int) (q:Int) (hn:X.length≤2^40) (hne:t≠r) (σ:Za) (hr:σ[r]? = some (.cells (Ya X))) (ht:σ[t]? = some (.cells [.int .i64 q])) :
  ACalls Tryz.prog 330 [.arr 1 r 0 X.length,.fn (.func 331) [] [.ptr t 0]] σ fun v σ'=>v=.arr 1 r 0 (Wp X q).length∧σ'=σ.set r (.cells (Ya (Wp X q))):=by
 have hrl:=(Qzs.1 hr).1
 have htl:=(Qzs.1 ht).1
 have hself:σ.set r (.cells (Ya X))=σ:=by
  obtain ⟨h1,h2⟩:=Qzs.1 hr
  rw [← h2];exact List.set_getElem_self h1
 obtain ⟨n,hln⟩:∃ n,X.length=n:=⟨_,rfl⟩
 have hlen:=Xy X
 refine ACalls.fit ?_
 suffices hh:∀ Post:AV→Za→Prop,(∀ v σ',(∃ (v':AV) (r1:Nat) (cs tl:List AV),(v=v'∨∃ k2 r2 o2 l2 c2,v=.arc k2 r2 o2 l2 c2∧v'=.arr k2 r2 o2 l2)∧σ'[r1]? = some (.cells (cs++tl)) ∧
   (v'=.arr 1 r 0 (Wp X q).length∧σ'.set r1 (.cells cs)=σ.set r (.cells (Ya (Wp X q)))))→Post v σ')→ACalls Tryz.prog 330 [.arr 1 r 0 X.length,.fn (.func 331) [] [.ptr t 0]] σ Post from hh _ fun _ _ h=>h
 intro Post hPost
 refine Zf1 5 (fun env σ'=>∃ (u:List AV) (Y:List Int) (tl:List AV),env={ t:=u }∧u.length=42∧tg u 0=.arr 1 r 0 n∧tg u 5=.int .i64 Y.length∧σ'=σ.set r (.cells (Ya Y++tl))∧Y=Wp X q∧(Ya Y++tl).length=n∧0<n∧Y.length≤n) Tryz.func330 rfl (Zb Tryz.func330 (by decide) rfl) ?_ ?_
 ·simp [-Vu,Tryz.ntmps330]
  refine StA.of ((Zfh X q hn σ hr ht).mono ?_)
  rintro v s ⟨hs,⟨rfl,hall⟩ | ⟨i,hi,rfl,hiq,hno⟩⟩
  ·rw [hs]
   simp [-Vu]
   have hk:Wp X q=X:=filter_all hall
   refine hPost _ _ ⟨_,r,Ya X,[],.inl rfl,by rw [List.append_nil];exact hr,by rw [hk],by rw [hk]⟩
  ·rw [hs]
   have hi1:¬ (i:Int)=-1:=by omega
   have hx:=w64 (n:=(i:Int)+1) (by omega) (by omega)
   rw [hln]
   simp [-Vu,hi1,hx]
   refine Wd (fun env σ'=>∃ (u:List AV) (i j:Nat) (Z:List Int),env={ t:=u }∧u.length=42∧tg u 0=.arr 1 r 0 n∧tg u 1=.fn (.func 331) [] [.ptr t 0]∧tg u 5=.int .i64 i∧tg u 6=.int .i64 j∧σ'=σ.set r (.cells (Ya Z))∧i<j∧j≤n∧Z.length=n∧Z.take i=Wp (X.take j) q∧∀ m,j≤m→Z[m]? = X[m]?)
    (fun env _=>match tg env.t 6 with | .int _ i=>n - i.toNat | _=>0) ⟨_,i,i+1,X,rfl,by simp,by simp,by simp,by simp,by simp,by simp [hself],by omega,by omega,hln,by
     rw [Qzt hi]
     unfold Wp
     rw [Zb4,if_pos hiq,filter_all hno],fun m _=>rfl⟩ ?_
   clear hiq hno hi hi1 hx
   rintro env _ ⟨u,i,j,Z,rfl,hl,g0,g1,g5,g6,rfl,hij,hj,hZ,hk,hrest⟩
   have hlz:=Xy Z
   rw [hZ] at hlz
   have hrg:∀ (Y:AObj),(σ.set r Y)[r]? = some Y:=fun Y=>by simp [hrl]
   have hsg:∀ (Y Y':AObj),(σ.set r Y).set r Y'=σ.set r Y':=fun Y Y'=>by rw [List.set_set]
   have htt:∀ (Y:AObj),(σ.set r Y)[t]? = some (.cells [.int .i64 q]):=fun Y=>by rw [List.getElem?_set_ne (Ne.symm hne)];exact ht
   rcases Qzn j n with hlt | hge
   ·have hlt':(j:Int)<(n:Int):=by omega
    have hx:=w64 (n:=(j:Int)+1) (by omega) (by omega)
    have hxi:=w64 (n:=(i:Int)+1) (by omega) (by omega)
    have hjz:j<Z.length:=by omega
    have hjx:j<X.length:=by omega
    have hzx:Z[j]=X[j]:=by
     have:=hrest j (Nat.le_refl _)
     rw [Qze hjz,Qze hjx] at this
     exact Option.some.inj this
    have hjl:j<(Ya Z).length:=by omega
    have hix:=Zch hjz
    have hix':(Ya Z)[j]'hjl=.int .i64 Z[j]:=by simp [Ya]
    have hlt2:j+1≤n:=hlt
    have hin:i<n:=by omega
    have hin2:i+1≤n:=by omega
    have hin':(i:Int)<(n:Int):=by omega
    have hset:(Ya Z).take i++.int .i64 Z[j]::(Ya Z).drop (i+1)=Ya (Z.set i Z[j]):=by
     unfold Ya
     rw [List.map_set,List.set_eq_take_append_cons_drop,if_pos (by simp;omega)]
    have htk:X.take (j+1)=X.take j++[X[j]]:=Qzt hjx
    have hk2:Wp (X.take (j+1)) q=if X[j]=q then Wp (X.take j) q else Wp (X.take j) q++[X[j]]:=by rw [htk];exact Zb4 _ _ _
    have hZi:(Z.set i Z[j]).take (i+1)=Z.take i++[Z[j]]:=by
     rw [Qzt (by rw [List.length_set];omega),List.getElem_set_self,List.take_set_of_le (Nat.le_refl _)]
    simp [-AV.one,-Vu,hl,g0,g1,g5,g6,hlt',hlt,hrg,hlz,hix,hix',hjl,hlt2]
    refine StA.of ((Vcf Z[j] q t _ (htt _)).mono ?_)
    rintro _ _ ⟨rfl,rfl⟩
    by_cases he:Z[j]=q
    ·simp [-AV.one,-Vu,hl,g0,g1,g5,g6,hlt',hlt,he,hx]
     refine ⟨⟨i,rfl,j+1,by simp,Z,rfl,by omega,by omega,hZ,?_,fun m hm=>hrest m (by omega)⟩,by omega⟩
     rw [hk2,if_pos (hzx▸he),hk]
    ·simp [-AV.one,-Vu,hl,g0,g1,g5,g6,hlt',hlt,he,hx,hrg,hsg,hlz,hin,hin2,hin',hset,hxi,Zet]
     refine ⟨⟨i+1,by simp,j+1,by simp,Z.set i Z[j],rfl,by omega,by omega,by simp [hZ],?_,fun m hm=>?_⟩,by omega⟩
     ·rw [hZi,hk2,if_neg (fun e=>he (hzx▸e)),hk,hzx]
     ·rw [List.getElem?_set_ne (by omega)]
      exact hrest m (by omega)
   ·obtain rfl:j=n:=by omega
    have hge':¬ (j:Int)<(j:Int):=by omega
    have hin:i<j:=by omega
    obtain ⟨tl,htl1,hcl⟩:=Zfj (σ:=σ.set r (.cells (Ya Z))) (r:=r) (i:=i) (n:=j) (hrg _) hlz hin
    have hin1:i≤j:=by omega
    have hin2:¬ i=j:=by omega
    simp [-AV.one,-Vu,hl,g0,g1,g5,g6,hin1,hin2,hcl]
    have hY:Z.take i=Wp X q:=by rw [hk,List.take_of_length_le (by omega)]
    have hYl:i=(Wp X q).length:=by rw [← hY,List.length_take];omega
    have hct:(Ya Z).take i=Ya (Z.take i):=by unfold Ya;rw [List.map_take]
    rw [hct,hY]
    refine ⟨_,by rw [hYl],tl,rfl,rfl,?_,by omega,by omega⟩
    rw [Xy,htl1,← hYl];omega
 ·rintro env _ ⟨u,Y,tl,rfl,hl,g0,g5,rfl,hY,hc,hn0,hYn⟩
  refine Wea (q:=0) g0 (by omega) (cs:=Ya Y++tl) (by simp [hrl]) (by rw [hc,Nat.mul_one]) fun cap hcap=>?_
  refine Vk _ ?_
  rw [List.set_set]
  have hm:Y.length≤cap:=by omega
  have hm0:¬ cap=0:=by omega
  simp [-AV.one,hl,g0,g5,hm,hm0]
  refine hPost _ _ ⟨.arr 1 r 0 Y.length,r,Ya Y,tl++List.replicate (cap - n) .any,.inr ⟨_,_,_,_,_,rfl,rfl⟩,?_,by rw [hY],?_⟩
  ·simp [hrl]
  ·rw [List.set_set,hY]
end Ab

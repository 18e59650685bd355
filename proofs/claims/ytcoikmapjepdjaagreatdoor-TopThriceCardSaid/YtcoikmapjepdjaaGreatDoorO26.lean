/-
  Texts packed for a claim.
-/
import Derived.Test.YtcoikmapjepdjaaGreatDoorO00
set_option linter.all false
namespace Ab
abbrev Tab:=Nat→Nat→Int
def Vj (t:Tab) (s m:Nat) (v:Int):Tab:=fun s' m'=>if s'=s∧m'=m then v else t s' m'
theorem Zfb (t:Tab) (s m:Nat) (v:Int):Vj t s m v s m=v:=by simp [Vj]
structure SlInv (slots:Nat) (N:List (Nat × Int)) (t:Tab):Prop where
 hi:∀ s m,slots≤s→t s m=-1
 row:∀ s m m',t s m=t s m'→t s m≠-1→m=m'
 uniq:∀ s s' m,t s m=t s' m→t s m≠-1→s=s'
 mem:∀ s m,t s m≠-1→(m,t s m)∈N
 all:∀ m n,(m,n)∈N→∃ s,t s m=n
 man:∀ m n,(m,n)∈N→m<5
 no:∀ m n,(m,n)∈N→0≤n
theorem SlInv.blank (slots:Nat):SlInv slots [] fun _ _=>-1 :=
 ⟨fun _ _ _=>rfl,fun _ _ _ _ h=>absurd rfl h,fun _ _ _ _ h=>absurd rfl h,fun _ _ h=>absurd rfl h,fun _ _ h=>by simp at h,fun _ _ h=>by simp at h,fun _ _ h=>by simp at h⟩
theorem SlInv.col {slots:Nat} {N:List (Nat × Int)} {t:Tab} (h:SlInv slots N t) {s m:Nat} (hm:5≤m):t s m=-1:=by
 rcases Classical.em (t s m=-1) with e | e
 ·exact e
 ·have:=h.man _ _ (h.mem s m e);omega
theorem SlInv.cell {slots:Nat} {N:List (Nat × Int)} {t:Tab} (h:SlInv slots N t) (s m:Nat):t s m=-1∨0≤t s m:=by
 rcases Classical.em (t s m=-1) with e | e
 ·exact .inl e
 ·exact .inr (h.no _ _ (h.mem s m e))
theorem SlInv.lt {slots:Nat} {N:List (Nat × Int)} {t:Tab} (h:SlInv slots N t) {s m:Nat} (hm:t s m≠-1):s<slots:=by
 rcases Qzn s slots with e | e
 ·exact e
 ·exact absurd (h.hi s m e) hm
theorem SlInv.add {slots:Nat} {N:List (Nat × Int)} {t:Tab} (h:SlInv slots N t) {s m:Nat} {n:Int} (hs:s<slots) (hm:m<5) (hn:0≤n) (ho:t s m=-1) (hf:∀ m',t s m'≠n) (hnew:(m,n)∉N) :
  SlInv slots (N++[(m,n)]) (Vj t s m n):=by
 have hmn:∀ s',t s' m≠n:=fun s' e=>hnew (e▸h.mem s' m (by omega))
 refine ⟨fun s' m' hs'=>?_,fun s' m1 m2 he hne=>?_,fun s1 s2 m' he hne=>?_,fun s' m' hne=>?_,fun m' n' hm'=>?_,fun m' n' hm'=>?_,fun m' n' hm'=>?_⟩
 ·unfold Vj
  rw [if_neg (by omega)]
  exact h.hi s' m' hs'
 ·unfold Vj at he hne
  by_cases e1:s'=s∧m1=m<;>by_cases e2:s'=s∧m2=m
  ·omega
  ·rw [if_pos e1,if_neg e2] at he
   exact absurd (e1.1▸he.symm) (hf m2)
  ·rw [if_neg e1,if_pos e2] at he
   exact absurd (e2.1▸he) (hf m1)
  ·rw [if_neg e1] at hne
   rw [if_neg e1,if_neg e2] at he
   exact h.row s' m1 m2 he hne
 ·unfold Vj at he hne
  by_cases e1:s1=s∧m'=m<;>by_cases e2:s2=s∧m'=m
  ·omega
  ·rw [if_pos e1,if_neg e2] at he
   exact absurd (e1.2▸he.symm) (hmn s2)
  ·rw [if_neg e1,if_pos e2] at he
   exact absurd (e2.2▸he) (hmn s1)
  ·rw [if_neg e1] at hne
   rw [if_neg e1,if_neg e2] at he
   exact h.uniq s1 s2 m' he hne
 ·unfold Vj at hne ⊢
  by_cases e1:s'=s∧m'=m
  ·rw [if_pos e1,e1.2];simp
  ·rw [if_neg e1] at hne ⊢
   exact List.mem_append_left _ (h.mem s' m' hne)
 ·rcases List.mem_append.1 hm' with hm' | hm'
  ·obtain ⟨s',e⟩:=h.all m' n' hm'
   refine ⟨s',?_⟩
   unfold Vj
   rw [if_neg,e]
   rintro ⟨e1,e2⟩
   have:=h.no m' n' hm'
   rw [e1,e2,ho] at e
   omega
  ·simp at hm'
   refine ⟨s,?_⟩
   rw [hm'.1,hm'.2,Zfb]
 ·rcases List.mem_append.1 hm' with hm' | hm'
  ·exact h.man m' n' hm'
  ·simp at hm';omega
 ·rcases List.mem_append.1 hm' with hm' | hm'
  ·exact h.no m' n' hm'
  ·simp at hm';omega
def swS (a b s:Nat):Nat:=if s=a then b else if s=b then a else s
theorem Zbz (a b s:Nat):swS a b (swS a b s)=s:=by
 unfold swS
 by_cases h1:s=a
 ·by_cases h2:b=a
  ·simp [h1,h2]
  ·simp [h1,h2]
 ·by_cases h2:s=b
  ·simp [h1,h2]
  ·simp [h1,h2]
def swT (t:Tab) (a b:Nat) (C:Nat→Bool):Tab:=fun s m=>if C m then t (swS a b s) m else t s m
structure Clo (t:Tab) (a b:Nat) (C:Nat→Bool):Prop where
 ab:∀ m m',C m=true→t a m=t b m'→t a m≠-1→C m'=true
 ba:∀ m m',C m=true→t b m=t a m'→t b m≠-1→C m'=true
theorem SlInv.swap {slots:Nat} {N:List (Nat × Int)} {t:Tab} (h:SlInv slots N t) {a b:Nat} {C:Nat→Bool} (ha:a<slots) (hb:b<slots) (hc:Clo t a b C):SlInv slots N (swT t a b C):=by
 have sw_lt:∀ s,slots≤s→swS a b s=s:=fun s hs=>by unfold swS;rw [if_neg (by omega),if_neg (by omega)]
 have key:∀ s m m',C m=true→C m'=false→t (swS a b s) m=t s m'→t (swS a b s) m≠-1→m=m':=fun s m m' h1 h2 he hne=>by
  unfold swS at he hne
  by_cases e1:s=a
  ·subst e1
   simp only [if_true] at he hne
   exact absurd (hc.ba m m' h1 he hne) (by simp [h2])
  ·by_cases e2:s=b
   ·subst e2
    simp only [if_neg e1,if_true] at he hne
    exact absurd (hc.ab m m' h1 he hne) (by simp [h2])
   ·simp only [if_neg e1,if_neg e2] at he hne
    exact h.row s m m' he hne
 refine ⟨fun s m hs=>?_,fun s m m' he hne=>?_,fun s s' m he hne=>?_,fun s m hne=>?_,fun m n hm=>?_,h.man,h.no⟩
 ·unfold swT
  rw [sw_lt s hs,h.hi s m hs];simp
 ·unfold swT at he hne
  cases h1:C m<;>cases h2:C m'<;>simp only [h1,h2,if_true,Bool.false_eq_true,if_false] at he hne
  ·exact h.row s m m' he hne
  ·exact (key s m' m h2 h1 he.symm (he▸hne)).symm
  ·exact key s m m' h1 h2 he hne
  ·exact h.row _ m m' he hne
 ·unfold swT at he hne
  cases h1:C m<;>simp only [h1,if_true,Bool.false_eq_true,if_false] at he hne
  ·exact h.uniq s s' m he hne
  ·have:=h.uniq _ _ m he hne
   rw [← Zbz a b s,this,Zbz]
 ·unfold swT at hne ⊢
  cases h1:C m<;>simp only [h1,if_true,Bool.false_eq_true,if_false] at hne ⊢
  ·exact h.mem s m hne
  ·exact h.mem _ m hne
 ·obtain ⟨s,e⟩:=h.all m n hm
  unfold swT
  cases h1:C m<;>simp only [if_true,Bool.false_eq_true,if_false]
  ·exact ⟨s,e⟩
  ·exact ⟨swS a b s,by rw [Zbz,e]⟩
abbrev Ent:=Nat × Nat × Int
structure ChInv (t:Tab) (a b man:Nat) (C:List Nat) (E:List Ent) (cur:Int):Prop where
 nd:C.Nodup
 lt:∀ m∈C,m<5
 ane:∀ m∈C,t a m≠-1
 abl:∀ m∈C,∀ m':Nat,t a m=t b m'→m'∈C∨(m':Int)=cur
 pre:∀ m:Nat,(m∈C∨(m:Int)=cur)→m≠man→∃ p∈C,t b m=t a p
 curc:cur=-1∨∃ c:Nat,cur=c∧c<5∧c∉C
 mans:man∈C∨cur=man
 ent:∀ e:Ent,e∈E↔e.2.2=t e.1 e.2.1∧((e.1=a∧e.2.1∈C)∨(e.1=b∧(e.2.1∈C∨(e.2.1:Int)=cur)∧e.2.1≠man))
theorem ChInv.zero {t:Tab} {a b man:Nat} (hm:man<5):ChInv t a b man [] [] man :=
 ⟨.nil,by simp,by simp,by simp,fun m h hne=>by
  rcases h with h | h
  ·simp at h
  ·omega,.inr ⟨man,rfl,hm,by simp⟩,.inr rfl,fun e=>by
  constructor
  ·intro h;simp at h
  ·rintro ⟨_,h | ⟨_,h | h,hne⟩⟩
   ·simp at h
   ·simp at h
   ·omega⟩
section
variable {slots:Nat} {N:List (Nat × Int)} {t:Tab}
theorem ChInv.stop (h:SlInv slots N t) {a b man c:Nat} {C:List Nat} {E:List Ent} (hc:ChInv t a b man C E c) (h1:t a c≠-1) (hw:∀ m,t b m≠t a c):ChInv t a b man (C++[c]) (E++[(a,c,t a c)]) (-1):=by
 have hcC:c∉C∧c<5:=by
  rcases hc.curc with e | ⟨c',e,h5,hn⟩
  ·omega
  ·have:c=c':=by omega
   subst this;exact ⟨hn,h5⟩
 refine ⟨?_,fun m hm=>?_,fun m hm=>?_,fun m hm m' he=>?_,fun m hm hne=>?_,.inl rfl,.inl ?_,fun e=>?_⟩
 ·rw [List.nodup_append]
  exact ⟨hc.nd,by simp,fun x hx y hy e=>by rw [List.mem_singleton.1 hy] at e;exact hcC.1 (e▸hx)⟩
 ·rcases List.mem_append.1 hm with hm | hm
  ·exact hc.lt m hm
  ·rw [List.mem_singleton.1 hm];exact hcC.2
 ·rcases List.mem_append.1 hm with hm | hm
  ·exact hc.ane m hm
  ·rw [List.mem_singleton.1 hm];exact h1
 ·rcases List.mem_append.1 hm with hm | hm
  ·rcases hc.abl m hm m' he with h | h
   ·exact .inl (List.mem_append_left _ h)
   ·exact .inl (List.mem_append_right _ (by simp;omega))
  ·rw [List.mem_singleton.1 hm] at he
   exact absurd he.symm (hw m')
 ·have hm':m∈C∨(m:Int)=c:=by
   rcases hm with hm | hm
   ·rcases List.mem_append.1 hm with hm | hm
    ·exact .inl hm
    ·exact .inr (by rw [List.mem_singleton.1 hm])
   ·omega
  obtain ⟨p,hp,e⟩:=hc.pre m hm' hne
  exact ⟨p,List.mem_append_left _ hp,e⟩
 ·rcases hc.mans with hm | hm
  ·exact List.mem_append_left _ hm
  ·exact List.mem_append_right _ (by simp;omega)
 ·rw [List.mem_append,hc.ent e,List.mem_singleton]
  constructor
  ·rintro (⟨h1,h2⟩ | rfl)
   ·refine ⟨h1,?_⟩
    rcases h2 with ⟨e1,e2⟩ | ⟨e1,e2,e3⟩
    ·exact .inl ⟨e1,List.mem_append_left _ e2⟩
    ·refine .inr ⟨e1,.inl ?_,e3⟩
     rcases e2 with e2 | e2
     ·exact List.mem_append_left _ e2
     ·exact List.mem_append_right _ (by simp;omega)
   ·exact ⟨rfl,.inl ⟨rfl,by simp⟩⟩
  ·rintro ⟨h1,⟨e1,e2⟩ | ⟨e1,e2,e3⟩⟩
   ·rcases List.mem_append.1 e2 with e2 | e2
    ·exact .inl ⟨h1,.inl ⟨e1,e2⟩⟩
    ·refine .inr ?_
     obtain ⟨s,m,n⟩:=e
     simp at h1 e1 e2
     simp [h1,e1,e2]
   ·refine .inl ⟨h1,.inr ⟨e1,?_,e3⟩⟩
    rcases e2 with e2 | e2
    ·rcases List.mem_append.1 e2 with e2 | e2
     ·exact .inl e2
     ·exact .inr (by rw [List.mem_singleton.1 e2])
    ·omega
theorem ChInv.go (h:SlInv slots N t) {a b man c w:Nat} {C:List Nat} {E:List Ent} (hc:ChInv t a b man C E c) (h1:t a c≠-1) (hb:t b man=-1) (hw5:w<5) (hw:t b w=t a c):ChInv t a b man (C++[c]) (E++[(a,c,t a c)]++[(b,w,t a c)]) w:=by
 have hcC:c∉C∧c<5:=by
  rcases hc.curc with e | ⟨c',e,h5,hn⟩
  ·omega
  ·have:c=c':=by omega
   subst this;exact ⟨hn,h5⟩
 have hwm:w≠man:=fun e=>h1 (by rw [← hw,e,hb])
 have hwu:∀ m',t a c=t b m'→m'=w:=fun m' e=>(h.row b w m' (hw.trans e) (by rw [hw];exact h1)).symm
 have hwC:w∉C++[c]:=fun hm=>by
  have hm':w∈C∨(w:Int)=c:=by
   rcases List.mem_append.1 hm with hm | hm
   ·exact .inl hm
   ·exact .inr (by rw [List.mem_singleton.1 hm])
  obtain ⟨p,hp,e⟩:=hc.pre w hm' hwm
  have:c=p:=h.row a c p (hw.symm.trans e) h1
  exact hcC.1 (this▸hp)
 refine ⟨?_,fun m hm=>?_,fun m hm=>?_,fun m hm m' he=>?_,fun m hm hne=>?_,.inr ⟨w,rfl,hw5,hwC⟩,.inl ?_,fun e=>?_⟩
 ·rw [List.nodup_append]
  exact ⟨hc.nd,by simp,fun x hx y hy e=>by rw [List.mem_singleton.1 hy] at e;exact hcC.1 (e▸hx)⟩
 ·rcases List.mem_append.1 hm with hm | hm
  ·exact hc.lt m hm
  ·rw [List.mem_singleton.1 hm];exact hcC.2
 ·rcases List.mem_append.1 hm with hm | hm
  ·exact hc.ane m hm
  ·rw [List.mem_singleton.1 hm];exact h1
 ·rcases List.mem_append.1 hm with hm | hm
  ·rcases hc.abl m hm m' he with h | h
   ·exact .inl (List.mem_append_left _ h)
   ·exact .inl (List.mem_append_right _ (by simp;omega))
  ·rw [List.mem_singleton.1 hm] at he
   exact .inr (by rw [hwu m' he])
 ·by_cases hmw:m=w
  ·exact ⟨c,by simp,by rw [hmw];exact hw⟩
  ·have hm':m∈C∨(m:Int)=c:=by
    rcases hm with hm | hm
    ·rcases List.mem_append.1 hm with hm | hm
     ·exact .inl hm
     ·exact .inr (by rw [List.mem_singleton.1 hm])
    ·omega
   obtain ⟨p,hp,e⟩:=hc.pre m hm' hne
   exact ⟨p,List.mem_append_left _ hp,e⟩
 ·rcases hc.mans with hm | hm
  ·exact List.mem_append_left _ hm
  ·exact List.mem_append_right _ (by simp;omega)
 ·rw [List.mem_append,List.mem_append,hc.ent e,List.mem_singleton,List.mem_singleton]
  constructor
  ·rintro ((⟨h1,h2⟩ | rfl) | rfl)
   ·refine ⟨h1,?_⟩
    rcases h2 with ⟨e1,e2⟩ | ⟨e1,e2,e3⟩
    ·exact .inl ⟨e1,List.mem_append_left _ e2⟩
    ·refine .inr ⟨e1,.inl ?_,e3⟩
     rcases e2 with e2 | e2
     ·exact List.mem_append_left _ e2
     ·exact List.mem_append_right _ (by simp;omega)
   ·exact ⟨rfl,.inl ⟨rfl,by simp⟩⟩
   ·exact ⟨hw.symm,.inr ⟨rfl,.inr rfl,hwm⟩⟩
  ·rintro ⟨h1,⟨e1,e2⟩ | ⟨e1,e2,e3⟩⟩
   ·rcases List.mem_append.1 e2 with e2 | e2
    ·exact .inl (.inl ⟨h1,.inl ⟨e1,e2⟩⟩)
    ·refine .inl (.inr ?_)
     obtain ⟨s,m,n⟩:=e
     simp at h1 e1 e2
     simp [h1,e1,e2]
   ·rcases e2 with e2 | e2
    ·refine .inl (.inl ⟨h1,.inr ⟨e1,?_,e3⟩⟩)
     rcases List.mem_append.1 e2 with e2 | e2
     ·exact .inl e2
     ·exact .inr (by rw [List.mem_singleton.1 e2])
    ·refine .inr ?_
     obtain ⟨s,m,n⟩:=e
     simp at h1 e1 e2
     have:m=w:=by omega
     simp [h1,e1,this,hw]
theorem ChInv.len {a b man:Nat} {C:List Nat} {E:List Ent} {cur:Int} (hc:ChInv t a b man C E cur):C.length≤5:=by
 have key:∀ (k:Nat) (C:List Nat),C.Nodup→(∀ m∈C,m<k)→C.length≤k:=by
  intro k
  induction k with
  | zero=>intro C _ h;cases C with
   | nil=>simp
   | cons x C=>exact absurd (h x (by simp)) (by omega)
  | succ k ih =>
   intro C hn h
   have h2:=ih (C.erase k) (hn.erase k) fun m hm=>by
    have:=h m (List.mem_of_mem_erase hm)
    have h3:m≠k:=fun e=>by rw [e] at hm;exact (List.Nodup.not_mem_erase hn) hm
    omega
   have:=List.length_erase (a:=k) (l:=C)
   split at this<;>omega
 exact key 5 C hc.nd hc.lt
def chC (C:List Nat) (cur:Int) (m:Nat):Bool:=decide (m∈C)||decide ((m:Int)=cur)
theorem ChInv.clo (h:SlInv slots N t) {a b man:Nat} {C:List Nat} {E:List Ent} {cur:Int} (hc:ChInv t a b man C E cur) (hb:t b man=-1) (hend:∀ c:Nat,cur=c→t a c=-1):Clo t a b (chC C cur):=by
 refine ⟨fun m m' h1 he hne=>?_,fun m m' h1 he hne=>?_⟩
 ·have h2:m∈C∨(m:Int)=cur:=by simpa [chC] using h1
  rcases h2 with h2 | h2
  ·have:=hc.abl m h2 m' he
   simpa [chC] using this
  ·exact absurd (hend m h2.symm) hne
 ·have h2:m∈C∨(m:Int)=cur:=by simpa [chC] using h1
  have hm:m≠man:=fun e=>hne (by rw [e,hb])
  obtain ⟨p,hp,e⟩:=hc.pre m h2 hm
  have:p=m':=h.row a p m' (e.symm.trans he) (hc.ane p hp)
  simp [chC,← this,hp]
def Vx (E:List Ent) (t:Tab):Tab:=E.foldl (fun t e=>Vj t e.1 e.2.1 (-1)) t
def Vaf (a b:Nat) (E:List Ent) (t:Tab):Tab:=E.foldl (fun t e=>Vj t (a+b - e.1) e.2.1 e.2.2) t
theorem Zc2 {E:List Ent}:∀ {t:Tab} {s m:Nat},(∃ n,(s,m,n)∈E)∨t s m=-1→Vx E t s m=-1:=by
 induction E with
 | nil=>rintro t s m (⟨n,h⟩ | h);· simp at h
        · exact h
 | cons e E ih =>
  intro t s m h
  refine ih (t:=Vj t e.1 e.2.1 (-1)) ?_
  rcases h with ⟨n,h⟩ | h
  ·rcases List.mem_cons.1 h with h | h
   ·right;subst h;simp [Vj]
   ·exact .inl ⟨n,h⟩
  ·right;unfold Vj;rw [h];simp
theorem Wbq {E:List Ent}:∀ {t:Tab} {s m:Nat},(∀ n,(s,m,n)∉E)→Vx E t s m=t s m:=by
 induction E with
 | nil=>intro t s m _;rfl
 | cons e E ih =>
  intro t s m h
  refine (ih (t:=Vj t e.1 e.2.1 (-1)) fun n hn=>h n (by simp [hn])).trans ?_
  unfold Vj
  rw [if_neg]
  rintro ⟨e1,e2⟩
  exact h e.2.2 (by rw [e1,e2];simp)
theorem Ubk {a b:Nat} {E:List Ent}:∀ {t:Tab} {s m:Nat},(∀ e∈E,¬ (s=a+b - e.1∧m=e.2.1))→Vaf a b E t s m=t s m:=by
 induction E with
 | nil=>intro t s m _;rfl
 | cons e E ih =>
  intro t s m h
  refine (ih (t:=Vj t (a+b - e.1) e.2.1 e.2.2) fun e' he=>h e' (by simp [he])).trans ?_
  unfold Vj
  rw [if_neg (h e (by simp))]
theorem Yb3 {a b:Nat} {v:Int} {E:List Ent}:∀ {t:Tab} {s m:Nat},(∀ e∈E,s=a+b - e.1∧m=e.2.1→e.2.2=v)→(∃ e∈E,s=a+b - e.1∧m=e.2.1)∨t s m=v→Vaf a b E t s m=v:=by
 induction E with
 | nil=>rintro t s m _ (⟨e,h,_⟩ | h);· simp at h
        · exact h
 | cons e E ih =>
  intro t s m hv h
  refine ih (t:=Vj t (a+b - e.1) e.2.1 e.2.2) (fun e' he=>hv e' (by simp [he])) ?_
  by_cases h2:s=a+b - e.1∧m=e.2.1
  ·right
   unfold Vj
   rw [if_pos h2,hv e (by simp) h2]
  ·rcases h with ⟨e',h,h3⟩ | h
   ·rcases List.mem_cons.1 h with h | h
    ·subst h;exact absurd h3 h2
    ·exact .inl ⟨e',h,h3⟩
   ·right;unfold Vj;rw [if_neg h2,h]
theorem Vc4 {a b man:Nat} {C:List Nat} {E:List Ent} {cur:Int} (hab:a≠b) (hc:ChInv t a b man C E cur) (hb:t b man=-1) (hend:∀ c:Nat,cur=c→t a c=-1):Vaf a b E (Vx E t)=swT t a b (chC C cur):=by
 have hE:∀ e∈E,(e.1=a∨e.1=b):=fun e he=>by
  rcases ((hc.ent e).1 he).2 with h | h
  ·exact .inl h.1
  ·exact .inr h.1
 funext s m
 by_cases hsa:s=a
 ·subst hsa
  by_cases hm:(s+b - s,m,t b m)∈E
  ·have h2:=(hc.ent _).1 hm
   have hC:chC C cur m=true:=by
    rcases h2.2 with h | h
    ·exact absurd h.1 (by simp;omega)
    ·simpa [chC] using h.2.1
   rw [Yb3 (v:=t b m) (fun e he hs=>?_) (.inl ⟨_,hm,by simp⟩)]
   ·unfold swT swS;simp [hC]
   ·have h3:=((hc.ent e).1 he).1
    have:e.1=b:=by rcases hE e he with h | h<;>omega
    rw [h3,this,← hs.2]
  ·have hn:∀ e∈E,¬ (s=s+b - e.1∧m=e.2.1):=fun e he hs=>hm (by
    have:e.1=b:=by rcases hE e he with h | h<;>omega
    have h3:=((hc.ent e).1 he).1
    obtain ⟨x,y,z⟩:=e
    simp at this h3 hs
    simp only [show s+b - s=b by omega]
    rw [hs.2,← this,← h3];exact he)
   rw [Ubk hn]
   have hb':(b,m,t b m)∉E:=by simpa [show s+b - s=b by omega] using hm
   by_cases hm2:(s,m,t s m)∈E
   ·rw [Zc2 (.inl ⟨_,hm2⟩)]
    have h2:=(hc.ent _).1 hm2
    have hC:m∈C:=by
     rcases h2.2 with h | h
     ·exact h.2
     ·exact absurd h.1 hab
    have hmm:m=man:=by
     rcases Classical.em (m=man) with e | e
     ·exact e
     ·exact absurd ((hc.ent (b,m,t b m)).2 ⟨rfl,.inr ⟨rfl,.inl hC,e⟩⟩) hb'
    unfold swT swS
    simp [chC,hC,hmm]
    rw [hmm] at hC
    simp [hC,hb]
   ·have hn2:∀ n,(s,m,n)∉E:=fun n hn=>by
     have h2:=((hc.ent _).1 hn).1
     simp at h2
     exact hm2 (h2▸hn)
    rw [Wbq hn2]
    have hmC:m∉C:=fun h=>hm2 ((hc.ent _).2 ⟨rfl,.inl ⟨rfl,h⟩⟩)
    unfold swT swS
    by_cases hcur:(m:Int)=cur
    ·have hmm:m=man:=by
      rcases Classical.em (m=man) with e | e
      ·exact e
      ·exact absurd ((hc.ent (b,m,t b m)).2 ⟨rfl,.inr ⟨rfl,.inr hcur,e⟩⟩) hb'
     simp [chC,hcur]
     rw [hend m hcur.symm,hmm,hb]
    ·simp [chC,hcur,hmC]
 ·by_cases hsb:s=b
  ·subst hsb
   by_cases hm:(a,m,t a m)∈E
   ·have h2:=(hc.ent _).1 hm
    have hC:m∈C:=by
     rcases h2.2 with h | h
     ·exact h.2
     ·exact absurd h.1 hab
    rw [Yb3 (v:=t a m) (fun e he hs=>?_) (.inl ⟨_,hm,by simp⟩)]
    ·unfold swT swS;simp [chC,hC,hsa]
    ·have h3:=((hc.ent e).1 he).1
     have:e.1=a:=by rcases hE e he with h | h<;>omega
     rw [h3,this,← hs.2]
   ·have hn:∀ e∈E,¬ (s=a+s - e.1∧m=e.2.1):=fun e he hs=>hm (by
     have:e.1=a:=by rcases hE e he with h | h<;>omega
     have h3:=((hc.ent e).1 he).1
     obtain ⟨x,y,z⟩:=e
     simp at this h3 hs
     rw [hs.2,← this,← h3];exact he)
    rw [Ubk hn]
    have hmC:m∉C:=fun h=>hm ((hc.ent _).2 ⟨rfl,.inl ⟨rfl,h⟩⟩)
    by_cases hm2:(s,m,t s m)∈E
    ·rw [Zc2 (.inl ⟨_,hm2⟩)]
     have h2:=(hc.ent _).1 hm2
     have hcur:(m:Int)=cur:=by
      rcases h2.2 with h | h
      ·exact absurd h.1 hsa
      ·rcases h.2.1 with h | h
       ·exact absurd h hmC
       ·exact h
     unfold swT swS
     simp [chC,hcur,hsa]
     exact (hend m hcur.symm).symm
    ·have hn2:∀ n,(s,m,n)∉E:=fun n hn=>by
      have h2:=((hc.ent _).1 hn).1
      simp at h2
      exact hm2 (h2▸hn)
     rw [Wbq hn2]
     unfold swT swS
     by_cases hcur:(m:Int)=cur
     ·have hmm:m=man:=by
       rcases Classical.em (m=man) with e | e
       ·exact e
       ·exact absurd ((hc.ent (s,m,t s m)).2 ⟨rfl,.inr ⟨rfl,.inr hcur,e⟩⟩) hm2
      simp [chC,hcur,hsa]
      rw [hend m hcur.symm,hmm,hb]
     ·simp [chC,hcur,hmC]
  ·rw [Ubk fun e he hs=>by rcases hE e he with h | h<;>omega,Wbq fun n hn=>by rcases hE _ hn with h | h<;>simp at h<;>omega]
   unfold swT swS
   simp [hsa,hsb]
theorem SlInv.lay2 (h:SlInv slots N t) {a b man:Nat} {n:Int} {C:List Nat} {E:List Ent} {cur:Int} (ha:a<slots) (hbl:b<slots) (hm5:man<5) (hn:0≤n) (hc:ChInv t a b man C E cur) (hb:t b man=-1) (hend:∀ c:Nat,cur=c→t a c=-1)
  (hfree:∀ m,t a m≠n) (hnew:(man,n)∉N):SlInv slots (N++[(man,n)]) (Vj (swT t a b (chC C cur)) a man n):=by
 have hcm:chC C cur man=true:=by
  rcases hc.mans with h | h
  ·simp [chC,h]
  ·simp [chC,h]
 refine (h.swap ha hbl (hc.clo h hb hend)).add ha hm5 hn ?_ (fun m'=>?_) hnew
 ·unfold swT swS;simp [hcm,hb]
 ·unfold swT swS
  by_cases h1:chC C cur m'=true
  ·simp only [h1,if_true]
   intro e
   have h2:m'∈C∨(m':Int)=cur:=by simpa [chC] using h1
   have hmm:m'≠man:=fun e2=>by rw [e2,hb] at e;omega
   obtain ⟨p,hp,e3⟩:=hc.pre m' h2 hmm
   exact hfree p (by rw [← e3,e])
  ·simp only [h1,if_true,Bool.false_eq_true,if_false]
   exact hfree m'
end
end Ab

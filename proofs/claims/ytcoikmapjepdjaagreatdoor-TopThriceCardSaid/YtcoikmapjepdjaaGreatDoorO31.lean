/-
  Texts packed for a claim.
-/
import Derived.Test.YtcoikmapjepdjaaGreatDoorO00
import Derived.Test.YtcoikmapjepdjaaGreatDoorO14
import Derived.Test.YtcoikmapjepdjaaGreatDoorO23
set_option linter.all false
namespace Ab
open Go Go.RowKit Go.Proofs
def RnL (n:Nat) (m:List Nat) (xs ys:List AV):Prop:=xs.length=ys.length∧∀ (i:Nat) (x y:AV),xs[i]? = some x→ys[i]? = some y→Rn n m x y
theorem RnL.nil (n:Nat) (m:List Nat):RnL n m [] []:=⟨rfl,fun i x y h=>by simp at h⟩
theorem RnL.cons {n:Nat} {m:List Nat} {x y:AV} {xs ys:List AV} (h:Rn n m x y) (hs:RnL n m xs ys):RnL n m (x::xs) (y::ys) :=
 ⟨by simp [hs.1],fun i a b ha hb=>by
  cases i with
  | zero=>simp at ha hb;subst ha;subst hb;exact h
  | succ i=>simp at ha hb;exact hs.2 i a b ha hb⟩
theorem RnL.append {n:Nat} {m:List Nat} {xs ys xs' ys':List AV} (h:RnL n m xs ys) (hs:RnL n m xs' ys'):RnL n m (xs++xs') (ys++ys'):=by
 induction xs generalizing ys with
 | nil =>
  have:ys=[]:=List.eq_nil_of_length_eq_zero (by have:=h.1;simpa using this.symm)
  subst this
  exact hs
 | cons x xs ih =>
  cases ys with
  | nil=>have:=h.1;simp at this
  | cons y ys=>exact .cons (h.2 0 x y rfl rfl) (ih ⟨by have:=h.1;simpa using this,fun i a b ha hb=>h.2 (i+1) a b (by simpa using ha) (by simpa using hb)⟩)
def wne (f:List Oyez.Rec):List (List (List UInt8)):=(f.map (·.words)).filter fun w=>!w.isEmpty
theorem Wbz:wne []=[]:=rfl
theorem Ybj (r:Oyez.Rec) (t:List Oyez.Rec):wne (r::t)=if r.words=[] then wne t else r.words::wne t:=by
 unfold wne
 rw [List.map_cons,List.filter_cons]
 by_cases h:r.words=[]<;>simp [h]
theorem Yct (f g:List Oyez.Rec):wne (f++g)=wne f++wne g:=by unfold wne;rw [List.map_append,List.filter_append]
theorem Wcs (r:Oyez.Rec):wne [r]=if r.words=[] then [] else [r.words]:=by rw [Ybj,Wbz]
def Vn (n:Nat):List Oyez.Rec→List Nat→List AV
 | [],_=>[]
 | r::t,qs=>if r.words=[] then .agg [.int .i64 r.kind,.int .i64 r.number,.pl 1 []]::Vn n t qs
  else .agg [.int .i64 r.kind,.int .i64 r.number,.arr 1 (n+qs.headD 0) 0 r.words.length]::Vn n t qs.tail
theorem Ya6 (n:Nat):∀ (f:List Oyez.Rec) (qs:List Nat),(Vn n f qs).length=f.length
 | [],_=>rfl
 | r::t,qs=>by
  unfold Vn
  split<;>simp [Ya6 n t]
theorem Vbj (n:Nat) (r:Oyez.Rec) (q:Nat):∀ (f:List Oyez.Rec) (qs:List Nat),qs.length=(wne f).length →
  Vn n (f++[r]) (qs++(if r.words=[] then [] else [q]))=Vn n f qs++[.agg [.int .i64 r.kind,.int .i64 r.number,if r.words=[] then .pl 1 [] else .arr 1 (n+q) 0 r.words.length]]
 | [],qs,h=>by
  have:qs=[]:=List.eq_nil_of_length_eq_zero (by simpa [Wbz] using h)
  subst this
  by_cases hw:r.words=[]<;>simp [Vn,hw]
 | x::t,qs,h=>by
  rw [Ybj] at h
  rw [List.cons_append]
  by_cases hx:x.words=[]
  ·rw [if_pos hx] at h
   rw [Vn,if_pos hx,Vbj n r q t qs h,Vn,if_pos hx,List.cons_append]
  ·rw [if_neg hx] at h
   cases qs with
   | nil=>simp at h
   | cons q0 qs =>
    rw [Vn,if_neg hx,Vn,if_neg hx,List.cons_append,List.cons_append]
    simp only [List.headD_cons,List.tail_cons]
    rw [Vbj n r q t qs (by simpa using h)]
theorem Xbt {n:Nat} {m:List Nat}:∀ (f:List Oyez.Rec) (qs ps:List Nat),qs.length=(wne f).length→ps.length=(wne f).length→(∀ (i q p:Nat),qs[i]? = some q→ps[i]? = some p→m[p]? = some q) →
  RnL n m ((Vn n f qs).flatMap AV.cells) ((Vn n f ps).flatMap AV.cells)
 | [],qs,ps,_,_,_=>.nil n m
 | x::t,qs,ps,hq,hp,h=>by
  rw [Ybj] at hq hp
  by_cases hx:x.words=[]
  ·rw [if_pos hx] at hq hp
   rw [Vn,if_pos hx,Vn,if_pos hx,List.flatMap_cons,List.flatMap_cons]
   exact .append (.cons (.int _ _) (.cons (.int _ _) (.cons (.pl0 1 1) (.nil n m)))) (Xbt t qs ps hq hp h)
  ·rw [if_neg hx] at hq hp
   cases qs with
   | nil=>simp at hq
   | cons q0 qs =>
    cases ps with
    | nil=>simp at hp
    | cons p0 ps =>
     rw [Vn,if_neg hx,Vn,if_neg hx,List.flatMap_cons,List.flatMap_cons]
     simp only [List.headD_cons,List.tail_cons]
     exact .append (.cons (.int _ _) (.cons (.int _ _) (.cons (.arr 1 p0 q0 0 _ (h 0 q0 p0 rfl rfl)) (.nil n m)))) (Xbt t qs ps (by simpa using hq) (by simpa using hp) fun i q p h1 h2=>h (i+1) q p (by simpa using h1) (by simpa using h2))
def Zaf (n s:Nat) (f:List Oyez.Rec):Za:=if f=[] then [] else .cells ((Vn n f (List.range' (s+1) (wne f).length)).flatMap AV.cells)::(wne f).map fun ws=>.cells (strs ws)
def Ybu (n s:Nat) (f:List Oyez.Rec):AV:=if f=[] then .nils else .arr 3 (n+s) 0 f.length
def Uak (l:List Oyez.Place):Za:=if l=[] then [] else [.cells (Zaq l)]
def Wb1 (n s:Nat) (l:List Oyez.Place):AV:=if l=[] then .nils else .arr 2 (n+s) 0 l.length
structure OwnAt (n:Nat) (g:Za) (f:List Oyez.Rec) (v:AV) (o:Option Nat) (qs:List Nat):Prop where
 val:match o with
  | none=>v=.nils∧f=[]
  | some j=>v=.arr 3 (n+j) 0 f.length∧f≠[]∧g[j]? = some (.cells ((Vn n f qs).flatMap AV.cells))
 len:qs.length=(wne f).length
 words:∀ (i q:Nat) (ws:List (List UInt8)),qs[i]? = some q→(wne f)[i]? = some ws→g[q]? = some (.cells (strs ws))
structure ConfAt (n:Nat) (g:Za) (l:List Oyez.Place) (v:AV) (o:Option Nat):Prop where
 val:match o with
  | none=>v=.nils∧l=[]
  | some j=>v=.arr 2 (n+j) 0 l.length∧l≠[]∧g[j]? = some (.cells (Zaq l))
def PwAt (n:Nat) (m:List Nat) (g:Za) (m1:List Nat) (objs:Za):Prop:=∀ (i:Nat) (o':AObj),objs[i]? = some o'→∃ (j:Nat) (o:AObj),m1[i]? = some j∧g[j]? = some o∧ORn n m o o'
theorem PwAt.append {n:Nat} {m:List Nat} {g:Za} {m1 m2:List Nat} {a b:Za} (h1:PwAt n m g m1 a) (h2:PwAt n m g m2 b) (hl:m1.length=a.length):PwAt n m g (m1++m2) (a++b):=by
 intro i o' ho
 rcases Qzn i a.length with h | h
 ·rw [Qzl h] at ho
  obtain ⟨j,o,g1,g2,g3⟩:=h1 i o' ho
  exact ⟨j,o,by rw [Qzl (by omega)];exact g1,g2,g3⟩
 ·rw [Qzr h] at ho
  obtain ⟨j,o,g1,g2,g3⟩:=h2 _ o' ho
  exact ⟨j,o,by rw [Qzr (by omega),hl];exact g1,g2,g3⟩
theorem Wep {n:Nat} {m:List Nat} (l:List Oyez.Place):RnL n m (Zaq l) (Zaq l):=by
 unfold Zaq
 induction l with
 | nil=>exact .nil n m
 | cons p t ih =>
  rw [List.flatMap_cons]
  exact .append (.cons (.int _ _) (.cons (.int _ _) (.nil n m))) ih
theorem Veb {n:Nat} {m:List Nat} (l:List (List UInt8)):RnL n m (strs l) (strs l):=by
 unfold strs
 induction l with
 | nil=>exact .nil n m
 | cons p t ih=>exact .cons (.str _) ih
theorem Xek {n:Nat} {g:Za} {f:List Oyez.Rec} {l:List Oyez.Place} {v1 v2:AV} {o1 o2:Option Nat} {qs:List Nat} (h1:OwnAt n g f v1 o1 qs) (h2:ConfAt n g l v2 o2) (hnd:(o1.toList++qs++o2.toList).Nodup) :
  ∃ m:List Nat,m.length=(Zaf n 0 f++Uak l).length∧m.Nodup∧PwAt n m g m (Zaf n 0 f++Uak l)∧Rn n m v1 (Ybu n 0 f)∧Rn n m v2 (Wb1 n (Zaf n 0 f).length l):=by
 have hlen:=h1.len
 have hv1:=h1.val
 have hv2:=h2.val
 refine ⟨o1.toList++qs++o2.toList,?_⟩
 have hl1:(o1.toList++qs).length=(Zaf n 0 f).length:=by
  unfold Zaf
  cases o1 with
  | none =>
   obtain ⟨_,rfl⟩:=hv1
   rw [Wbz] at hlen
   simpa using hlen
  | some j=>rw [if_neg hv1.2.1];simp [hlen]
 have hl2:o2.toList.length=(Uak l).length:=by
  unfold Uak
  cases o2 with
  | none=>rw [if_pos hv2.2];rfl
  | some j=>rw [if_neg hv2.2.1];rfl
 have hm:∀ i q:Nat,qs[i]? = some q→f≠[]→(o1.toList++qs++o2.toList)[1+i]? = some q:=by
  intro i q hq hf
  have hi:=(Qzs.1 hq).1
  cases o1 with
  | none=>exact absurd hv1.2 hf
  | some j =>
   rw [Option.toList_some,List.append_assoc,List.cons_append,List.nil_append,Nat.add_comm,List.getElem?_cons_succ,Qzl hi]
   exact hq
 have hrow:PwAt n (o1.toList++qs++o2.toList) g (o1.toList++qs) (Zaf n 0 f):=by
  intro i o' ho
  unfold Zaf at ho
  cases o1 with
  | none=>rw [if_pos hv1.2] at ho;simp at ho
  | some j =>
   obtain ⟨_,hf,hg⟩:=hv1
   rw [if_neg hf] at ho
   cases i with
   | zero =>
    simp at ho
    subst ho
    have hR:=Xbt (n:=n) (m:=(some j).toList++qs++o2.toList) f qs (List.range' 1 (wne f).length) hlen (by simp) fun i q p h3 h4=>by
     have hi:i<(wne f).length:=by have:=(Qzs.1 h3).1;omega
     rw [List.getElem?_range' hi] at h4
     simp at h4
     subst h4
     exact hm i q h3 hf
    exact ⟨j,_,rfl,hg,.cells _ _ (Nat.le_of_eq hR.1.symm) hR.2⟩
   | succ i =>
    rw [List.getElem?_cons_succ,Qzp,Qzm] at ho
    obtain ⟨ws,hws,rfl⟩:=ho
    have hi:i<qs.length:=by have:=(Qzs.1 hws).1;omega
    have hR:=Veb (n:=n) (m:=(some j).toList++qs++o2.toList) ws
    exact ⟨qs[i],_,by simp [hi],h1.words i _ ws (Qze hi) hws,.cells _ _ (Nat.le_refl _) hR.2⟩
 have hconf:PwAt n (o1.toList++qs++o2.toList) g o2.toList (Uak l):=by
  intro i o' ho
  unfold Uak at ho
  cases o2 with
  | none=>rw [if_pos hv2.2] at ho;simp at ho
  | some j =>
   rw [if_neg hv2.2.1] at ho
   cases i with
   | zero =>
    simp at ho
    subst ho
    exact ⟨j,_,rfl,hv2.2.2,.cells _ _ (Nat.le_refl _) (Wep l).2⟩
   | succ i=>simp at ho
 refine ⟨by rw [List.length_append,hl1,hl2,List.length_append],hnd,hrow.append hconf hl1,?_,?_⟩
 ·unfold Ybu
  cases o1 with
  | none =>
   obtain ⟨rfl,rfl⟩:=hv1
   exact .nils
  | some j =>
   obtain ⟨rfl,hf,_⟩:=hv1
   rw [if_neg hf]
   exact .arr 3 0 j 0 _ rfl
 ·unfold Wb1
  cases o2 with
  | none =>
   obtain ⟨rfl,rfl⟩:=hv2
   exact .nils
  | some j =>
   obtain ⟨rfl,hf,_⟩:=hv2
   rw [if_neg hf,← hl1]
   exact .arr 2 _ j 0 _ (by rw [Qzr (Nat.le_refl _),Nat.sub_self];rfl)
end Ab
namespace Oyez
def jk (base a b:List Rec) (s:List Bool) (ps:List Place) (i:Nat):Jn:=(ps.take i).foldl (Wby base a b s) ⟨[],[]⟩
end Oyez
namespace Ab
open Go Go.RowKit Go.Proofs
structure MS (σ g:Za) (J:Oyez.Jn) (v1 v2:AV):Prop where
 ex:∃ (o1 o2:Option Nat) (qs:List Nat),Acc σ g 3 v1 (Vn σ.length J.out qs) o1∧Acc σ g 2 v2 ((J.conf.map Oyez.Chg.place).map Vag) o2∧qs.length=(wne J.out).length ∧
  (∀ (i q:Nat) (ws:List (List UInt8)),qs[i]? = some q→(wne J.out)[i]? = some ws→g[q]? = some (.cells (strs ws)))∧(o1.toList++qs++o2.toList).Nodup∧(o1=none∨J.out≠[])∧(o2=none∨J.conf≠[])
theorem Acc.ltO {σ g:Za} {k:Nat} {v:AV} {l:List AV} {o:Option Nat} (h:Acc σ g k v l o):∀ j∈o.toList,j<g.length:=by
 intro j hj
 cases o with
 | none=>simp at hj
 | some i=>simp at hj;subst hj;exact h.lt
theorem Zgm {g:Za} {J:Oyez.Jn} {qs:List Nat} (hl:qs.length=(wne J.out).length) (hw:∀ (i q:Nat) (ws:List (List UInt8)),qs[i]? = some q→(wne J.out)[i]? = some ws→g[q]? = some (.cells (strs ws))):∀ q∈qs,q<g.length:=by
 intro q hq
 obtain ⟨i,hi,rfl⟩:=List.getElem_of_mem hq
 exact (Qzs.1 (hw i _ _ (Qze hi) (Qze (by omega)))).1
theorem MS.more {σ g:Za} {J:Oyez.Jn} {v1 v2:AV} (h:MS σ g J v1 v2) (y:Za):MS σ (g++y) J v1 v2:=by
 obtain ⟨o1,o2,qs,h1,h2,h3,h4,h5,h6,h7⟩:=h.ex
 exact ⟨o1,o2,qs,h1.more y,h2.more y,h3,fun i q ws hq hw=>Zab (h4 i q ws hq hw),h5,h6,h7⟩
theorem MS.put {σ g:Za} {J:Oyez.Jn} {v1 v2:AV} (h:MS σ g J v1 v2) (hl:J.out.length≤2^40) (p:Oyez.Place) (ws:List (List UInt8)) :
  ∃ v1' g',Xa Tryz.prog #[57,57] v1 (.arr 3 (σ.length+(g++Wam ws).length) 0 1) (σ++((g++Wam ws)++[.cells [.int .i64 p.kind,.int .i64 p.number,Za2 (σ.length+g.length) ws]]))=some (v1',σ++g')∧MS σ g' (Oyez.putJ J p (some ws)) v1' v2:=by
 obtain ⟨o1,o2,qs,h1,h2,h3,h4,h5,h6,h7⟩:=h.ex
 have hone:(Za2 (σ.length+g.length) ws).one=true:=by unfold Za2;split<;>rfl
 obtain ⟨v',g',o',he,hA',hgl,hkeep,ho⟩:=(h1.more (Wam ws)).push (P:=Tryz.prog) (t:=57) (e:=88) (ag:=true) (x:=.agg [.int .i64 p.kind,.int .i64 p.number,Za2 (σ.length+g.length) ws]) (by simp) (by simp) (by simp) (by omega) ⟨by simp [AV.cells],fun y hy=>by
  simp [AV.cells] at hy
  rcases hy with rfl | rfl | rfl
  ·rfl
  ·rfl
  ·exact hone⟩ (by rw [Ya6];simp;omega)
 have hlt2:∀ j∈qs++o2.toList,j<g.length:=by
  intro j hj
  rcases List.mem_append.1 hj with hj | hj
  ·exact Zgm h3 h4 j hj
  ·exact h2.ltO j hj
 have hnd:(o1.toList++(qs++o2.toList)).Nodup:=by rw [← List.append_assoc];exact h5
 have hne:∀ j∈qs++o2.toList,some j≠o1:=by
  intro j hj e
  subst e
  exact (List.nodup_append.1 hnd).2.2 j (by simp) j hj rfl
 have hgl0:g.length≤(g++Wam ws).length:=by simp
 have hold:∀ j∈qs++o2.toList,g'[j]? = g[j]?:=by
  intro j hj
  have hj2:=hlt2 j hj
  rw [hkeep j (hne j hj) (by omega),Qzl hj2]
 have hq:=(List.nodup_append.1 hnd).2.1
 refine ⟨v',g',by simpa [AV.cells] using he,⟨o',o2,qs++(if ws=[] then [] else [g.length]),?_,h2.keep fun j hj=>?_,?_,?_,?_,.inr (by simp [Oyez.putJ]),h7⟩⟩
 ·have hs:=Vbj σ.length ⟨p.kind,p.number,ws⟩ g.length J.out qs h3
  simp only at hs
  show Acc σ g' 3 v' (Vn σ.length (J.out++[⟨p.kind,p.number,ws⟩]) _) o'
  rw [hs]
  unfold Za2 at hA'
  exact hA'
 ·subst hj
  exact hold j (by simp)
 ·show _=(wne (J.out++[⟨p.kind,p.number,ws⟩])).length
  rw [Yct,Wcs,List.length_append,List.length_append,h3]
  by_cases hw:ws=[]<;>simp [hw]
 ·intro i q w hqi hwi
  have hwi':(wne (J.out++[⟨p.kind,p.number,ws⟩]))[i]? = some w:=hwi
  rw [Yct,Wcs] at hwi'
  rcases Qzn i qs.length with hi | hi
  ·rw [Qzl hi] at hqi
   rw [Qzl (by omega)] at hwi'
   rw [hold q (by simp [Qzg hqi])]
   exact h4 i q w hqi hwi'
  ·rw [Qzr hi] at hqi
   rw [Qzr (by omega)] at hwi'
   by_cases hw:ws=[]
   ·simp [hw] at hqi
   ·rw [if_neg hw] at hqi
    simp only [hw,if_false] at hwi'
    have hi0:i - qs.length=0:=by have:=(Qzs.1 hqi).1;simp at this;omega
    rw [hi0] at hqi
    rw [show i - (wne J.out).length=0 by omega] at hwi'
    simp at hqi hwi'
    subst hqi;subst hwi'
    have hcg:Wam ws=[.cells (strs ws)]:=by unfold Wam;rw [if_neg hw]
    have hne1:some g.length≠o1:=fun e=>by
     have:=h1.ltO g.length (by rw [← e];simp)
     omega
    rw [hkeep g.length hne1 (by rw [hcg];simp),hcg,Qzr (Nat.le_refl _),Nat.sub_self]
    rfl
 ·rw [List.append_assoc,List.nodup_append]
  have hin:∀ y∈(qs++(if ws=[] then [] else [g.length]))++o2.toList,y∈qs++o2.toList∨(y=g.length∧¬ ws=[]):=by
   intro y hy
   rcases List.mem_append.1 hy with hy | hy
   ·rcases List.mem_append.1 hy with hy | hy
    ·exact .inl (by simp [hy])
    ·by_cases hw:ws=[]
     ·simp [hw] at hy
     ·simp [hw] at hy;exact .inr ⟨hy,hw⟩
   ·exact .inl (by simp [hy])
  refine ⟨by cases o'<;>simp,?_,fun x hx y hy e=>?_⟩
  ·by_cases hw:ws=[]
   ·simp only [hw,if_true,List.append_nil];exact hq
   ·simp only [hw,if_false]
    rw [List.append_assoc]
    obtain ⟨q1,q2,q3⟩:=List.nodup_append.1 hq
    refine List.nodup_append.2 ⟨q1,List.nodup_append.2 ⟨by simp,q2,fun x hx y hy e=>?_⟩,fun x hx y hy e=>?_⟩
    ·simp at hx;subst hx;subst e
     have:=hlt2 g.length (by simp [hy]);omega
    ·subst e
     rcases List.mem_append.1 hy with hy | hy
     ·simp at hy;subst hy
      have:=hlt2 g.length (by simp [hx]);omega
     ·exact q3 x hx x hy rfl
  ·subst e
   rcases hin x hy with hy | ⟨rfl,hw⟩
   ·rcases ho with rfl | ⟨m,hm,rfl⟩
    ·exact hne x hy (by cases o'<;>simp at hx;rw [hx])
    ·simp at hx
     have:=hlt2 x hy
     omega
   ·rcases ho with rfl | ⟨m,hm,rfl⟩
    ·have:=h1.ltO g.length hx;omega
    ·simp at hx
     have hcg:(Wam ws).length=1:=by unfold Wam;rw [if_neg hw];rfl
     rw [List.length_append,hcg] at hm
     omega
theorem MS.len {σ g:Za} {J:Oyez.Jn} {v1 v2:AV} (h:MS σ g J v1 v2):Uan Tryz.prog 129 v2 (σ++g)=some (.int .i64 J.conf.length):=by
 obtain ⟨o1,o2,qs,h1,h2,_⟩:=h.ex
 have hv:=h2.val
 cases o2 with
 | none =>
  obtain ⟨rfl,hl⟩:=hv
  have:J.conf=[]:=by simpa using hl
  simp [this]
 | some j =>
  obtain ⟨rfl,_⟩:=hv
  simp
theorem MS.canon {σ g:Za} {J:Oyez.Jn} {v1 v2:AV} (h:MS σ g J v1 v2):∃ m:List Nat,m.length=(Zaf σ.length 0 J.out++Uak (J.conf.map Oyez.Chg.place)).length∧m.Nodup∧PwAt σ.length m g m (Zaf σ.length 0 J.out++Uak (J.conf.map Oyez.Chg.place)) ∧
  Rn σ.length m v1 (Ybu σ.length 0 J.out)∧Rn σ.length m v2 (Wb1 σ.length (Zaf σ.length 0 J.out).length (J.conf.map Oyez.Chg.place)):=by
 obtain ⟨o1,o2,qs,h1,h2,h3,h4,h5,h6,h7⟩:=h.ex
 have hv1:=h1.val
 have hv2:=h2.val
 refine Xek (qs:=qs) (o1:=o1) (o2:=o2) ⟨?_,h3,h4⟩ ⟨?_⟩ h5
 ·cases o1 with
  | none =>
   refine ⟨hv1.1,List.eq_nil_of_length_eq_zero ?_⟩
   rw [← Ya6 σ.length J.out qs,hv1.2]
   rfl
  | some j =>
   obtain ⟨e1,e2⟩:=hv1
   rw [Ya6] at e1
   exact ⟨e1,by simpa using h6,e2⟩
 ·cases o2 with
  | none=>exact ⟨hv2.1,by simpa using hv2.2⟩
  | some j =>
   obtain ⟨e1,e2⟩:=hv2
   rw [Vgy] at e2
   exact ⟨by simpa using e1,by simpa using h7,e2⟩
end Ab
namespace Ab
open Go Go.RowKit
variable [Mode]
variable {P:Program}
def Ycd (ops:List Oper) (A:List Nat) (a u:Nat):Bool:=match ops[u]? with
 | some o=>(match o.op with
  | .store ty (.tmp d) x=>o.guard.isNone&&o.dst.isNone&&((ops[a]?).bind (·.dst) == some d)&&bef (Ug ops) u a&&(match x with
   | .tmp t=>Uau ops A t
   | _=>true)
  | _=>false)
 | none=>false
def Zcf (ops:List Oper) (A:List Nat) (i:Nat):Bool:=match ops[i]? with
 | some o=>(Xn ops o).all (Uau ops A)&&o.guard.isNone
 | none=>true
theorem LayA.of {ops:List Oper} {A U:List Nat} {env:Env} {σ:Za} {r:Nat→AV} {zc st:Nat→List AV} {n:Nat} (hlen:A.length=U.length) (h1:nodupB A=true) (h2:nodupB U=true) (h3:A.all (okA P ops n)=true) (hn:env.t.length=n)
  (hz:∀ a∈A,Uar P ops a=zc a) (h4:((List.range A.length).all fun p=>Ycd ops A (A.getD p 0) (U.getD p 0))=true)
  (hUv:∀ (p a u:Nat),A[p]? = some a→U[p]? = some u→∀ (o:Oper) (ty:TypeId) (d:Tmp) (x:Operand),ops[u]? = some o→o.op=.store ty (.tmp d) x→∀ (τ:Za) (q:Nat),τ[q]? = some (.cells (zc a))→Xag P ty (.ptr q 0) (Wa (Va ops r env tr u).t x) τ=some (τ.set q (.cells (st a))))
  (h5:((List.range ops.length).all fun i=>A.contains i||U.contains i||Zcf ops A i)=true)
  (hL:∀ (i:Nat) (o:Oper),ops[i]? = some o→i∉A→i∉U→∀ g:Za,aw1 P o (fun v s=>v=r i∧s=σ++g) (Va ops r env tr i) (σ++g))
  (hfr:∀ i,i∉A→Fz σ.length [] (r i) (r i)) (hfz:∀ a∈A,∀ y∈st a,Fz σ.length [] y y):LayA P ops A U env σ r zc st:=by
 have nd:=Ybf _ h1
 have none':∀ g:Option (Nat × Bool),g.isNone=true→g=none:=fun g hg=>by cases g<;>first | rfl | cases hg
 refine ⟨hlen,nd,Ybf _ h2,?_,?_,?_,hfr,hfz⟩
 ·intro a ha
  have:=List.all_eq_true.1 h3 a ha
  unfold okA at this
  split at this
  ·rename_i o ho
   split at this
   ·rename_i e d hop hd
    simp only [Bool.and_eq_true,decide_eq_true_eq] at this
    obtain ⟨⟨⟨g1,g2⟩,g3⟩,g4⟩:=this
    refine ⟨o,d,e,ho,hop,none' _ g1,hd,hn▸g2,fun j hj=>?_,fun τ=>?_⟩
    ·have hlt:j<ops.length:=by
      rw [Option.bind_eq_some_iff] at hj
      obtain ⟨x,hx,_⟩:=hj
      exact (Qzs.1 hx).1
     have:=List.all_eq_true.1 g3 j (by simpa using hlt)
     rw [hj] at this
     simpa using this
    ·split at g4
     ·rename_i z hzz
      rw [← hz a ha]
      unfold Uar
      rw [ho]
      simp only [hop,hzz,Option.bind_some,Wy,g4,if_true]
     ·cases g4
   ·cases this
  ·cases this
 ·intro p a u ha hu
  have hp:=(Qzs.1 ha).1
  have:=List.all_eq_true.1 h4 p (by simpa using hp)
  have hA:A.getD p 0=a:=by rw [List.getD_eq_getElem?_getD,ha];rfl
  have hU:U.getD p 0=u:=by rw [List.getD_eq_getElem?_getD,hu];rfl
  rw [hA,hU] at this
  unfold Ycd at this
  split at this
  ·rename_i o ho
   split at this
   ·rename_i ty d x hop
    simp only [Bool.and_eq_true] at this
    obtain ⟨⟨⟨⟨g1,g2⟩,g3⟩,g4⟩,g5⟩:=this
    refine ⟨o,ty,d,x,ho,hop,none' _ g1,by cases hd:o.dst<;>first | rfl | (rw [hd] at g2;cases g2),by simpa using g3,g4,fun t ht a' ha'=>?_,fun τ q hq=>hUv p a u ha hu o ty d x ho hop τ q hq⟩
    subst ht
    simp only [Uau] at g5
    simpa using List.all_eq_true.1 g5 a' ha'
   ·cases this
  ·cases this
 ·intro i o ho hiA hiU
  have hlt:=(Qzs.1 ho).1
  have:=List.all_eq_true.1 h5 i (by simpa using hlt)
  have c1:A.contains i=false:=by simpa using hiA
  have c2:U.contains i=false:=by simpa using hiU
  rw [c1,c2] at this
  simp only [Bool.false_or] at this
  unfold Zcf at this
  rw [ho] at this
  simp only [Bool.and_eq_true] at this
  refine ⟨fun t ht a ha=>?_,.inl ⟨?_,hL i o ho hiA hiU⟩⟩
  ·have h6:=List.all_eq_true.1 this.1 t ht
   simpa using List.all_eq_true.1 h6 a ha
  ·rw [none' _ this.2]
   rfl
end Ab
namespace Ab
open Go Go.RowKit Go.Proofs
attribute [local irreducible] aws awp aw1 Og Om Oc Oa Ogd Ov Ot awd Zb awh Wb Ogh Ohd awl Ogl Ohl awv Ogv Ohv Xb Vb QFn Ub QRo QBe ACode AYield
end Ab

/-
  Texts packed for a claim.
-/
import Derived.Test.YtcoikmapjepdjaaGreatDoorD00
import Derived.Test.YtcoikmapjepdjaaGreatDoorD13
import Derived.Test.YtcoikmapjepdjaaGreatDoorD22
import Derived.Test.YtcoikmapjepdjaaGreatDoorD24
set_option linter.all false
namespace Ab
open Go Go.RowKit Go.Proofs
def RnL (n:Nat) (m:List Nat) (xs ys:List AV):Prop:=xs.length=ys.length∧∀ (i:Nat) (x y:AV),xs[i]? = some x→ys[i]? = some y→Rn n m x y
theorem RnL.nil (n:Nat) (m:List Nat):RnL n m [] []:=⟨rfl,fun i x y h=>by simp at h⟩
theorem RnL.cons {n:Nat} {m:List Nat} {x y:AV} {xs ys:List AV} (h:Rn n m x y) (hs:RnL n m xs ys):RnL n m (x::xs) (y::ys) :=
 ⟨by simp [hs.1],fun i a b ha hb=>by
  cases i with
  | zero=>simp at ha hb;subst ha;subst hb;exact h
  | succ i=>simp at ha hb;exact hs.2 i a b ha hb⟩
theorem RnL.append {n:Nat} {m:List Nat} {xs ys xs' ys':List AV} (h:RnL n m xs ys) (hs:RnL n m xs' ys'):RnL n m (xs++xs') (ys++ys'):=by
 induction xs generalizing ys with
 | nil =>
  have:ys=[]:=List.eq_nil_of_length_eq_zero (by have:=h.1;simpa using this.symm)
  subst this
  exact hs
 | cons x xs ih =>
  cases ys with
  | nil=>have:=h.1;simp at this
  | cons y ys=>exact .cons (h.2 0 x y rfl rfl) (ih ⟨by have:=h.1;simpa using this,fun i a b ha hb=>h.2 (i+1) a b (by simpa using ha) (by simpa using hb)⟩)
def wne (f:List Oyez.Rec):List (List (List UInt8)):=(f.map (·.words)).filter fun w=>!w.isEmpty
theorem Ua9:wne []=[]:=rfl
theorem Zax (r:Oyez.Rec) (t:List Oyez.Rec):wne (r::t)=if r.words=[] then wne t else r.words::wne t:=by
 unfold wne
 rw [List.map_cons,List.filter_cons]
 by_cases h:r.words=[]<;>simp [h]
theorem Ycb (f g:List Oyez.Rec):wne (f++g)=wne f++wne g:=by unfold wne;rw [List.map_append,List.filter_append]
theorem Ubt (r:Oyez.Rec):wne [r]=if r.words=[] then [] else [r.words]:=by rw [Zax,Ua9]
def Zi (n:Nat):List Oyez.Rec→List Nat→List AV
 | [],_=>[]
 | r::t,qs=>if r.words=[] then .agg [.int .i64 r.kind,.int .i64 r.number,.pl 1 []]::Zi n t qs
  else .agg [.int .i64 r.kind,.int .i64 r.number,.arr 1 (n+qs.headD 0) 0 r.words.length]::Zi n t qs.tail
theorem Xas (n:Nat):∀ (f:List Oyez.Rec) (qs:List Nat),(Zi n f qs).length=f.length
 | [],_=>rfl
 | r::t,qs=>by
  unfold Zi
  split<;>simp [Xas n t]
theorem Ua6 (n:Nat):∀ (f:List Oyez.Rec) (qs:List Nat),∀ x∈Zi n f qs,x.cells.length=3∧∀ y∈x.cells,y.one=true
 | [],_=>by simp [Zi]
 | r::t,qs=>by
  intro x hx
  unfold Zi at hx
  split at hx
  ·rcases List.mem_cons.1 hx with rfl | hx
   ·simp [AV.cells,AV.one]
   ·exact Ua6 n t _ x hx
  ·rcases List.mem_cons.1 hx with rfl | hx
   ·simp [AV.cells,AV.one]
   ·exact Ua6 n t _ x hx
theorem Xa7 (n:Nat) (r:Oyez.Rec) (q:Nat):∀ (f:List Oyez.Rec) (qs:List Nat),qs.length=(wne f).length →
  Zi n (f++[r]) (qs++(if r.words=[] then [] else [q]))=Zi n f qs++[.agg [.int .i64 r.kind,.int .i64 r.number,if r.words=[] then .pl 1 [] else .arr 1 (n+q) 0 r.words.length]]
 | [],qs,h=>by
  have:qs=[]:=List.eq_nil_of_length_eq_zero (by simpa [Ua9] using h)
  subst this
  by_cases hw:r.words=[]<;>simp [Zi,hw]
 | x::t,qs,h=>by
  rw [Zax] at h
  rw [List.cons_append]
  by_cases hx:x.words=[]
  ·rw [if_pos hx] at h
   rw [Zi,if_pos hx,Xa7 n r q t qs h,Zi,if_pos hx,List.cons_append]
  ·rw [if_neg hx] at h
   cases qs with
   | nil=>simp at h
   | cons q0 qs =>
    rw [Zi,if_neg hx,Zi,if_neg hx,List.cons_append,List.cons_append]
    simp only [List.headD_cons,List.tail_cons]
    rw [Xa7 n r q t qs (by simpa using h)]
theorem Ubg (n d:Nat):∀ (f:List Oyez.Rec) (qs:List Nat),qs.length=(wne f).length→Zi (n+d) f qs=Zi n f (qs.map (d+·))
 | [],qs,_=>rfl
 | x::t,qs,h=>by
  rw [Zax] at h
  by_cases hx:x.words=[]
  ·rw [if_pos hx] at h
   rw [Zi,if_pos hx,Zi,if_pos hx,Ubg n d t qs h]
  ·rw [if_neg hx] at h
   cases qs with
   | nil=>simp at h
   | cons q0 qs =>
    rw [Zi,if_neg hx,Zi,if_neg hx,List.map_cons]
    simp only [List.headD_cons,List.tail_cons]
    rw [Ubg n d t qs (by simpa using h),Nat.add_assoc]
theorem Zbk {n:Nat} {m:List Nat}:∀ (f:List Oyez.Rec) (qs ps:List Nat),qs.length=(wne f).length→ps.length=(wne f).length→(∀ (i q p:Nat),qs[i]? = some q→ps[i]? = some p→m[p]? = some q) →
  RnL n m ((Zi n f qs).flatMap AV.cells) ((Zi n f ps).flatMap AV.cells)
 | [],qs,ps,_,_,_=>.nil n m
 | x::t,qs,ps,hq,hp,h=>by
  rw [Zax] at hq hp
  by_cases hx:x.words=[]
  ·rw [if_pos hx] at hq hp
   rw [Zi,if_pos hx,Zi,if_pos hx,List.flatMap_cons,List.flatMap_cons]
   exact .append (.cons (.int _ _) (.cons (.int _ _) (.cons (.pl0 1 1) (.nil n m)))) (Zbk t qs ps hq hp h)
  ·rw [if_neg hx] at hq hp
   cases qs with
   | nil=>simp at hq
   | cons q0 qs =>
    cases ps with
    | nil=>simp at hp
    | cons p0 ps =>
     rw [Zi,if_neg hx,Zi,if_neg hx,List.flatMap_cons,List.flatMap_cons]
     simp only [List.headD_cons,List.tail_cons]
     exact .append (.cons (.int _ _) (.cons (.int _ _) (.cons (.arr 1 p0 q0 0 _ (h 0 q0 p0 rfl rfl)) (.nil n m)))) (Zbk t qs ps (by simpa using hq) (by simpa using hp) fun i q p h1 h2=>h (i+1) q p (by simpa using h1) (by simpa using h2))
def Xh (n s:Nat) (f:List Oyez.Rec):Za:=if f=[] then [] else .cells ((Zi n f (List.range' (s+1) (wne f).length)).flatMap AV.cells)::(wne f).map fun ws=>.cells (strs ws)
def Yn (n s:Nat) (f:List Oyez.Rec):AV:=if f=[] then .nils else .arr 3 (n+s) 0 f.length
def Xm (l:List Oyez.Place):Za:=if l=[] then [] else [.cells (Ug l)]
def Vp (n s:Nat) (l:List Oyez.Place):AV:=if l=[] then .nils else .arr 2 (n+s) 0 l.length
structure OwnAt (n:Nat) (g:Za) (f:List Oyez.Rec) (v:AV) (o:Option Nat) (qs:List Nat):Prop where
 val:match o with
  | none=>v=.nils∧f=[]
  | some j=>v=.arr 3 (n+j) 0 f.length∧f≠[]∧g[j]? = some (.cells ((Zi n f qs).flatMap AV.cells))
 len:qs.length=(wne f).length
 words:∀ (i q:Nat) (ws:List (List UInt8)),qs[i]? = some q→(wne f)[i]? = some ws→g[q]? = some (.cells (strs ws))
structure ConfAt (n:Nat) (g:Za) (l:List Oyez.Place) (v:AV) (o:Option Nat):Prop where
 val:match o with
  | none=>v=.nils∧l=[]
  | some j=>v=.arr 2 (n+j) 0 l.length∧l≠[]∧g[j]? = some (.cells (Ug l))
def PwAt (n:Nat) (m:List Nat) (g:Za) (m1:List Nat) (objs:Za):Prop:=∀ (i:Nat) (o':AObj),objs[i]? = some o'→∃ (j:Nat) (o:AObj),m1[i]? = some j∧g[j]? = some o∧ORn n m o o'
theorem PwAt.append {n:Nat} {m:List Nat} {g:Za} {m1 m2:List Nat} {a b:Za} (h1:PwAt n m g m1 a) (h2:PwAt n m g m2 b) (hl:m1.length=a.length):PwAt n m g (m1++m2) (a++b):=by
 intro i o' ho
 rcases Qzn i a.length with h | h
 ·rw [Qzl h] at ho
  obtain ⟨j,o,g1,g2,g3⟩:=h1 i o' ho
  exact ⟨j,o,by rw [Qzl (by omega)];exact g1,g2,g3⟩
 ·rw [Qzr h] at ho
  obtain ⟨j,o,g1,g2,g3⟩:=h2 _ o' ho
  exact ⟨j,o,by rw [Qzr (by omega),hl];exact g1,g2,g3⟩
theorem Yei {n:Nat} {m:List Nat} (l:List Oyez.Place):RnL n m (Ug l) (Ug l):=by
 unfold Ug
 induction l with
 | nil=>exact .nil n m
 | cons p t ih =>
  rw [List.flatMap_cons]
  exact .append (.cons (.int _ _) (.cons (.int _ _) (.nil n m))) ih
theorem Zg9 {n:Nat} {m:List Nat} (l:List (List UInt8)):RnL n m (strs l) (strs l):=by
 unfold strs
 induction l with
 | nil=>exact .nil n m
 | cons p t ih=>exact .cons (.str _) ih
theorem Vcn {f:List Oyez.Rec} (h:wne f≠[]):f≠[]:=fun e=>h (by rw [e];rfl)
theorem Xbt {n:Nat} {g:Za} {f:List Oyez.Rec} {l:List Oyez.Place} {v1 v2:AV} {o1 o2:Option Nat} {qs:List Nat} (h1:OwnAt n g f v1 o1 qs) (h2:ConfAt n g l v2 o2) (hnd:(o1.toList++qs++o2.toList).Nodup) :
  ∃ m:List Nat,m.length=(Xh n 0 f++Xm l).length∧m.Nodup∧PwAt n m g m (Xh n 0 f++Xm l)∧Rn n m v1 (Yn n 0 f)∧Rn n m v2 (Vp n (Xh n 0 f).length l):=by
 have hlen:=h1.len
 have hv1:=h1.val
 have hv2:=h2.val
 refine ⟨o1.toList++qs++o2.toList,?_⟩
 have hl1:(o1.toList++qs).length=(Xh n 0 f).length:=by
  unfold Xh
  cases o1 with
  | none =>
   obtain ⟨_,rfl⟩:=hv1
   rw [Ua9] at hlen
   simpa using hlen
  | some j=>rw [if_neg hv1.2.1];simp [hlen]
 have hl2:o2.toList.length=(Xm l).length:=by
  unfold Xm
  cases o2 with
  | none=>rw [if_pos hv2.2];rfl
  | some j=>rw [if_neg hv2.2.1];rfl
 have hm:∀ i q:Nat,qs[i]? = some q→f≠[]→(o1.toList++qs++o2.toList)[1+i]? = some q:=by
  intro i q hq hf
  have hi:=(Qzs.1 hq).1
  cases o1 with
  | none=>exact absurd hv1.2 hf
  | some j =>
   rw [Option.toList_some,List.append_assoc,List.cons_append,List.nil_append,Nat.add_comm,List.getElem?_cons_succ,Qzl hi]
   exact hq
 have hrow:PwAt n (o1.toList++qs++o2.toList) g (o1.toList++qs) (Xh n 0 f):=by
  intro i o' ho
  unfold Xh at ho
  cases o1 with
  | none=>rw [if_pos hv1.2] at ho;simp at ho
  | some j =>
   obtain ⟨_,hf,hg⟩:=hv1
   rw [if_neg hf] at ho
   cases i with
   | zero =>
    simp at ho
    subst ho
    have hR:=Zbk (n:=n) (m:=(some j).toList++qs++o2.toList) f qs (List.range' 1 (wne f).length) hlen (by simp) fun i q p h3 h4=>by
     have hi:i<(wne f).length:=by have:=(Qzs.1 h3).1;omega
     rw [List.getElem?_range' hi] at h4
     simp at h4
     subst h4
     exact hm i q h3 hf
    exact ⟨j,_,rfl,hg,.cells _ _ (Nat.le_of_eq hR.1.symm) hR.2⟩
   | succ i =>
    rw [List.getElem?_cons_succ,Qzp,Qzm] at ho
    obtain ⟨ws,hws,rfl⟩:=ho
    have hi:i<qs.length:=by have:=(Qzs.1 hws).1;omega
    have hR:=Zg9 (n:=n) (m:=(some j).toList++qs++o2.toList) ws
    exact ⟨qs[i],_,by simp [hi],h1.words i _ ws (Qze hi) hws,.cells _ _ (Nat.le_refl _) hR.2⟩
 have hconf:PwAt n (o1.toList++qs++o2.toList) g o2.toList (Xm l):=by
  intro i o' ho
  unfold Xm at ho
  cases o2 with
  | none=>rw [if_pos hv2.2] at ho;simp at ho
  | some j =>
   rw [if_neg hv2.2.1] at ho
   cases i with
   | zero =>
    simp at ho
    subst ho
    exact ⟨j,_,rfl,hv2.2.2,.cells _ _ (Nat.le_refl _) (Yei l).2⟩
   | succ i=>simp at ho
 refine ⟨by rw [List.length_append,hl1,hl2,List.length_append],hnd,hrow.append hconf hl1,?_,?_⟩
 ·unfold Yn
  cases o1 with
  | none =>
   obtain ⟨rfl,rfl⟩:=hv1
   exact .nils
  | some j =>
   obtain ⟨rfl,hf,_⟩:=hv1
   rw [if_neg hf]
   exact .arr 3 0 j 0 _ rfl
 ·unfold Vp
  cases o2 with
  | none =>
   obtain ⟨rfl,rfl⟩:=hv2
   exact .nils
  | some j =>
   obtain ⟨rfl,hf,_⟩:=hv2
   rw [if_neg hf,← hl1]
   exact .arr 2 _ j 0 _ (by rw [Qzr (Nat.le_refl _),Nat.sub_self];rfl)
end Ab
namespace Oyez
theorem Uf0 (base a b:List Rec) (s:List Bool) (x:Jn) (p:Place):x.conf.length≤(Zr base a b s x p).conf.length:=by
 rw [joinAt_step]
 unfold stepJ
 split
 ·simp [putJ]
 ·split
  ·simp [putJ]
  ·simp [putJ]
theorem Ygo (base a b:List Rec) (s:List Bool):∀ (l:List Place) (x:Jn),x.conf.length≤(l.foldl (Zr base a b s) x).conf.length:=by
 intro l
 induction l with
 | nil=>intro x;simp
 | cons p t ih=>intro x;exact Nat.le_trans (Uf0 base a b s x p) (ih _)
def jk (base a b:List Rec) (s:List Bool) (ps:List Place) (i:Nat):Jn:=(ps.take i).foldl (Zr base a b s) ⟨[],[]⟩
theorem jk_snoc (base a b:List Rec) (s:List Bool) {ps:List Place} {i:Nat} (h:i<ps.length):jk base a b s ps (i+1)=Zr base a b s (jk base a b s ps i) ps[i]:=by
 unfold jk
 rw [Qzt h,List.foldl_append]
 rfl
theorem jk_mono (base a b:List Rec) (s:List Bool) (ps:List Place) (i:Nat):(jk base a b s ps i).conf.length≤(jk base a b s ps ps.length).conf.length:=by
 unfold jk
 rw [List.take_length]
 conv=>rhs;rw [← List.take_append_drop i ps,List.foldl_append]
 exact Ygo base a b s _ _
theorem jk_len (base a b:List Rec) (s:List Bool) (ps:List Place) (i:Nat):(jk base a b s ps i).out.length≤ps.length∧(jk base a b s ps i).conf.length≤ps.length:=by
 have h:=Wfr base a b s (ps.take i) ⟨[],[]⟩
 have h2:(ps.take i).length≤ps.length:=by rw [List.length_take];omega
 simp only [List.length_nil,Nat.zero_add] at h
 unfold jk
 omega
theorem placesOf_len (l:List Place):(placesOf l).length≤l.length:=by
 have hi:∀ (p:Place) (m:List Place),(Zs p m).length≤m.length+1:=by
  intro p m
  induction m with
  | nil=>simp [Zs]
  | cons q t ih =>
   unfold Zs
   split
   ·simp
   ·split
    ·simp;omega
    ·simp
 have hf:∀ (l m:List Place),(l.foldl (fun a p=>Zs p a) m).length≤m.length+l.length:=by
  intro l
  induction l with
  | nil=>intro m;simp
  | cons p t ih =>
   intro m
   have h1:=ih (Zs p m)
   have h2:=hi p m
   rw [List.foldl_cons,List.length_cons]
   omega
 have:=hf l []
 simpa [placesOf] using this
end Oyez
namespace Ab
open Go Go.RowKit Go.Proofs
structure MS (σ g:Za) (J:Oyez.Jn) (v1 v2:AV):Prop where
 ex:∃ (o1 o2:Option Nat) (qs:List Nat),Acc σ g 3 v1 (Zi σ.length J.out qs) o1∧Acc σ g 2 v2 ((J.conf.map Oyez.Chg.place).map Ve) o2∧qs.length=(wne J.out).length ∧
  (∀ (i q:Nat) (ws:List (List UInt8)),qs[i]? = some q→(wne J.out)[i]? = some ws→g[q]? = some (.cells (strs ws)))∧(o1.toList++qs++o2.toList).Nodup∧(o1=none∨J.out≠[])∧(o2=none∨J.conf≠[])
theorem Acc.ltO {σ g:Za} {k:Nat} {v:AV} {l:List AV} {o:Option Nat} (h:Acc σ g k v l o):∀ j∈o.toList,j<g.length:=by
 intro j hj
 cases o with
 | none=>simp at hj
 | some i=>simp at hj;subst hj;exact h.lt
theorem Ub9 {g:Za} {J:Oyez.Jn} {qs:List Nat} (hl:qs.length=(wne J.out).length) (hw:∀ (i q:Nat) (ws:List (List UInt8)),qs[i]? = some q→(wne J.out)[i]? = some ws→g[q]? = some (.cells (strs ws))):∀ q∈qs,q<g.length:=by
 intro q hq
 obtain ⟨i,hi,rfl⟩:=List.getElem_of_mem hq
 exact (Qzs.1 (hw i _ _ (Qze hi) (Qze (by omega)))).1
theorem MS.more {σ g:Za} {J:Oyez.Jn} {v1 v2:AV} (h:MS σ g J v1 v2) (y:Za):MS σ (g++y) J v1 v2:=by
 obtain ⟨o1,o2,qs,h1,h2,h3,h4,h5,h6,h7⟩:=h.ex
 exact ⟨o1,o2,qs,h1.more y,h2.more y,h3,fun i q ws hq hw=>Vr (h4 i q ws hq hw),h5,h6,h7⟩
theorem MS.put {σ g:Za} {J:Oyez.Jn} {v1 v2:AV} (h:MS σ g J v1 v2) (hl:J.out.length≤2^40) (p:Oyez.Place) (ws:List (List UInt8)) :
  ∃ v1' g',Xa Tryz.prog #[57,57] v1 (.arr 3 (σ.length+(g++Vi ws).length) 0 1) (σ++((g++Vi ws)++[.cells [.int .i64 p.kind,.int .i64 p.number,Vl (σ.length+g.length) ws]]))=some (v1',σ++g')∧MS σ g' (Oyez.putJ J p (some ws)) v1' v2:=by
 obtain ⟨o1,o2,qs,h1,h2,h3,h4,h5,h6,h7⟩:=h.ex
 have hone:(Vl (σ.length+g.length) ws).one=true:=by unfold Vl;split<;>rfl
 obtain ⟨v',g',o',he,hA',hgl,hkeep,ho⟩:=(h1.more (Vi ws)).push (P:=Tryz.prog) (t:=57) (e:=88) (ag:=true) (x:=.agg [.int .i64 p.kind,.int .i64 p.number,Vl (σ.length+g.length) ws]) (by simp) (by simp) (by simp) (by omega) ⟨by simp [AV.cells],fun y hy=>by
  simp [AV.cells] at hy
  rcases hy with rfl | rfl | rfl
  ·rfl
  ·rfl
  ·exact hone⟩ (by rw [Xas];simp;omega)
 have hlt2:∀ j∈qs++o2.toList,j<g.length:=by
  intro j hj
  rcases List.mem_append.1 hj with hj | hj
  ·exact Ub9 h3 h4 j hj
  ·exact h2.ltO j hj
 have hnd:(o1.toList++(qs++o2.toList)).Nodup:=by rw [← List.append_assoc];exact h5
 have hne:∀ j∈qs++o2.toList,some j≠o1:=by
  intro j hj e
  subst e
  exact (List.nodup_append.1 hnd).2.2 j (by simp) j hj rfl
 have hgl0:g.length≤(g++Vi ws).length:=by simp
 have hold:∀ j∈qs++o2.toList,g'[j]? = g[j]?:=by
  intro j hj
  have hj2:=hlt2 j hj
  rw [hkeep j (hne j hj) (by omega),Qzl hj2]
 have hq:=(List.nodup_append.1 hnd).2.1
 refine ⟨v',g',by simpa [AV.cells] using he,⟨o',o2,qs++(if ws=[] then [] else [g.length]),?_,h2.keep fun j hj=>?_,?_,?_,?_,.inr (by simp [Oyez.putJ]),h7⟩⟩
 ·have hs:=Xa7 σ.length ⟨p.kind,p.number,ws⟩ g.length J.out qs h3
  simp only at hs
  show Acc σ g' 3 v' (Zi σ.length (J.out++[⟨p.kind,p.number,ws⟩]) _) o'
  rw [hs]
  unfold Vl at hA'
  exact hA'
 ·subst hj
  exact hold j (by simp)
 ·show _=(wne (J.out++[⟨p.kind,p.number,ws⟩])).length
  rw [Ycb,Ubt,List.length_append,List.length_append,h3]
  by_cases hw:ws=[]<;>simp [hw]
 ·intro i q w hqi hwi
  have hwi':(wne (J.out++[⟨p.kind,p.number,ws⟩]))[i]? = some w:=hwi
  rw [Ycb,Ubt] at hwi'
  rcases Qzn i qs.length with hi | hi
  ·rw [Qzl hi] at hqi
   rw [Qzl (by omega)] at hwi'
   rw [hold q (by simp [Qzg hqi])]
   exact h4 i q w hqi hwi'
  ·rw [Qzr hi] at hqi
   rw [Qzr (by omega)] at hwi'
   by_cases hw:ws=[]
   ·simp [hw] at hqi
   ·rw [if_neg hw] at hqi
    simp only [hw,if_false] at hwi'
    have hi0:i - qs.length=0:=by have:=(Qzs.1 hqi).1;simp at this;omega
    rw [hi0] at hqi
    rw [show i - (wne J.out).length=0 by omega] at hwi'
    simp at hqi hwi'
    subst hqi;subst hwi'
    have hcg:Vi ws=[.cells (strs ws)]:=by unfold Vi;rw [if_neg hw]
    have hne1:some g.length≠o1:=fun e=>by
     have:=h1.ltO g.length (by rw [← e];simp)
     omega
    rw [hkeep g.length hne1 (by rw [hcg];simp),hcg,Qzr (Nat.le_refl _),Nat.sub_self]
    rfl
 ·rw [List.append_assoc,List.nodup_append]
  have hin:∀ y∈(qs++(if ws=[] then [] else [g.length]))++o2.toList,y∈qs++o2.toList∨(y=g.length∧¬ ws=[]):=by
   intro y hy
   rcases List.mem_append.1 hy with hy | hy
   ·rcases List.mem_append.1 hy with hy | hy
    ·exact .inl (by simp [hy])
    ·by_cases hw:ws=[]
     ·simp [hw] at hy
     ·simp [hw] at hy;exact .inr ⟨hy,hw⟩
   ·exact .inl (by simp [hy])
  refine ⟨by cases o'<;>simp,?_,fun x hx y hy e=>?_⟩
  ·by_cases hw:ws=[]
   ·simp only [hw,if_true,List.append_nil];exact hq
   ·simp only [hw,if_false]
    rw [List.append_assoc]
    obtain ⟨q1,q2,q3⟩:=List.nodup_append.1 hq
    refine List.nodup_append.2 ⟨q1,List.nodup_append.2 ⟨by simp,q2,fun x hx y hy e=>?_⟩,fun x hx y hy e=>?_⟩
    ·simp at hx;subst hx;subst e
     have:=hlt2 g.length (by simp [hy]);omega
    ·subst e
     rcases List.mem_append.1 hy with hy | hy
     ·simp at hy;subst hy
      have:=hlt2 g.length (by simp [hx]);omega
     ·exact q3 x hx x hy rfl
  ·subst e
   rcases hin x hy with hy | ⟨rfl,hw⟩
   ·rcases ho with rfl | ⟨m,hm,rfl⟩
    ·exact hne x hy (by cases o'<;>simp at hx;rw [hx])
    ·simp at hx
     have:=hlt2 x hy
     omega
   ·rcases ho with rfl | ⟨m,hm,rfl⟩
    ·have:=h1.ltO g.length hx;omega
    ·simp at hx
     have hcg:(Vi ws).length=1:=by unfold Vi;rw [if_neg hw];rfl
     rw [List.length_append,hcg] at hm
     omega
theorem MS.len {σ g:Za} {J:Oyez.Jn} {v1 v2:AV} (h:MS σ g J v1 v2):Ze Tryz.prog 129 v2 (σ++g)=some (.int .i64 J.conf.length):=by
 obtain ⟨o1,o2,qs,h1,h2,_⟩:=h.ex
 have hv:=h2.val
 cases o2 with
 | none =>
  obtain ⟨rfl,hl⟩:=hv
  have:J.conf=[]:=by simpa using hl
  simp [this]
 | some j =>
  obtain ⟨rfl,_⟩:=hv
  simp
theorem MS.canon {σ g:Za} {J:Oyez.Jn} {v1 v2:AV} (h:MS σ g J v1 v2):∃ m:List Nat,m.length=(Xh σ.length 0 J.out++Xm (J.conf.map Oyez.Chg.place)).length∧m.Nodup∧PwAt σ.length m g m (Xh σ.length 0 J.out++Xm (J.conf.map Oyez.Chg.place)) ∧
  Rn σ.length m v1 (Yn σ.length 0 J.out)∧Rn σ.length m v2 (Vp σ.length (Xh σ.length 0 J.out).length (J.conf.map Oyez.Chg.place)):=by
 obtain ⟨o1,o2,qs,h1,h2,h3,h4,h5,h6,h7⟩:=h.ex
 have hv1:=h1.val
 have hv2:=h2.val
 refine Xbt (qs:=qs) (o1:=o1) (o2:=o2) ⟨?_,h3,h4⟩ ⟨?_⟩ h5
 ·cases o1 with
  | none =>
   refine ⟨hv1.1,List.eq_nil_of_length_eq_zero ?_⟩
   rw [← Xas σ.length J.out qs,hv1.2]
   rfl
  | some j =>
   obtain ⟨e1,e2⟩:=hv1
   rw [Xas] at e1
   exact ⟨e1,by simpa using h6,e2⟩
 ·cases o2 with
  | none=>exact ⟨hv2.1,by simpa using hv2.2⟩
  | some j =>
   obtain ⟨e1,e2⟩:=hv2
   rw [Ubi] at e2
   exact ⟨by simpa using e1,by simpa using h7,e2⟩
theorem MS.clashY {σ g:Za} {J:Oyez.Jn} {v1 v2:AV} (h:MS σ g J v1 v2) (hl:J.conf.length≤2^40) (c:Oyez.Chg) (y:Za) :
  ∃ v2' g',Xa Tryz.prog #[129,129] v2 (.arr 2 (σ.length+(g++y).length) 0 1) (σ++((g++y)++[.cells [.int .i64 c.kind,.int .i64 c.number]]))=some (v2',σ++g')∧MS σ g' ⟨J.out,J.conf++[c]⟩ v1 v2' ∧
   ∀ (k:Nat) (o:AObj),y[k]? = some o→g'[g.length+k]? = some o:=by
 obtain ⟨o1,o2,qs,h1,h2,h3,h4,h5,h6,h7⟩:=h.ex
 obtain ⟨v',g',o',he,hA',hgl,hkeep,ho⟩:=(h2.more y).push (P:=Tryz.prog) (t:=129) (e:=177) (ag:=true) (x:=Ve c.place) (by simp) (by simp) (by simp) (by omega) ⟨by simp [AV.cells],by simp [AV.cells,AV.one]⟩ (by simp;omega)
 have hne:∀ j∈o1.toList++qs,some j≠o2:=by
  intro j hj e
  subst e
  exact (List.nodup_append.1 h5).2.2 j hj j (by simp) rfl
 have hlt:∀ j∈o1.toList++qs,j<g.length:=by
  intro j hj
  rcases List.mem_append.1 hj with hj | hj
  ·exact h1.ltO j hj
  ·exact Ub9 h3 h4 j hj
 have hgy:g.length≤(g++y).length:=by simp
 have hold:∀ j∈o1.toList++qs,g'[j]? = g[j]?:=by
  intro j hj
  have:=hlt j hj
  rw [hkeep j (hne j hj) (by omega),Qzl this]
 refine ⟨v',g',he,⟨o1,o',qs,h1.keep fun j hj=>?_,by simpa using hA',h3,fun i q ws hq hw=>?_,?_,h6,.inr (by simp)⟩,fun k o hk=>?_⟩
 ·subst hj
  exact hold j (by simp)
 ·have hm:=Qzg hq
  rw [hold q (by simp [hm])]
  exact h4 i q ws hq hw
 ·refine List.nodup_append.2 ⟨(List.nodup_append.1 h5).1,by cases o'<;>simp,fun x hx y' hy e=>?_⟩
  subst e
  rcases ho with rfl | ⟨m,hm,rfl⟩
  ·exact (List.nodup_append.1 h5).2.2 x hx x hy rfl
  ·simp at hy
   have:=hlt x hx
   omega
 ·have hkl:=(Qzs.1 hk).1
  have hn2:some (g.length+k)≠o2:=fun e=>by
   have:=h2.ltO (g.length+k) (by rw [← e];simp)
   omega
  rw [hkeep _ hn2 (by simp;omega),Qzr (by omega),Nat.add_sub_cancel_left]
  exact hk
end Ab
namespace Ab
open Go Go.RowKit
variable [Mode]
variable {P:Program}
def Ybw (ops:List Oper) (A:List Nat) (a u:Nat):Bool:=match ops[u]? with
 | some o=>(match o.op with
  | .store ty (.tmp d) x=>o.guard.isNone&&o.dst.isNone&&((ops[a]?).bind (·.dst) == some d)&&bef (Uq ops) u a&&(match x with
   | .tmp t=>Yao ops A t
   | _=>true)
  | _=>false)
 | none=>false
def Ybq (ops:List Oper) (A:List Nat) (i:Nat):Bool:=match ops[i]? with
 | some o=>(Yr ops o).all (Yao ops A)&&o.guard.isNone
 | none=>true
theorem LayA.of {ops:List Oper} {A U:List Nat} {env:Env} {σ:Za} {r:Nat→AV} {zc st:Nat→List AV} {n:Nat} (hlen:A.length=U.length) (h1:nodupB A=true) (h2:nodupB U=true) (h3:A.all (okA P ops n)=true) (hn:env.t.length=n)
  (hz:∀ a∈A,Wah P ops a=zc a) (h4:((List.range A.length).all fun p=>Ybw ops A (A.getD p 0) (U.getD p 0))=true)
  (hUv:∀ (p a u:Nat),A[p]? = some a→U[p]? = some u→∀ (o:Oper) (ty:TypeId) (d:Tmp) (x:Operand),ops[u]? = some o→o.op=.store ty (.tmp d) x→∀ (τ:Za) (q:Nat),τ[q]? = some (.cells (zc a))→Uac P ty (.ptr q 0) (Wa (Ua ops r env tr u).t x) τ=some (τ.set q (.cells (st a))))
  (h5:((List.range ops.length).all fun i=>A.contains i||U.contains i||Ybq ops A i)=true)
  (hL:∀ (i:Nat) (o:Oper),ops[i]? = some o→i∉A→i∉U→∀ g:Za,aw1 P o (fun v s=>v=r i∧s=σ++g) (Ua ops r env tr i) (σ++g))
  (hfr:∀ i,i∉A→Fz σ.length [] (r i) (r i)) (hfz:∀ a∈A,∀ y∈st a,Fz σ.length [] y y):LayA P ops A U env σ r zc st:=by
 have nd:=Va2 _ h1
 have none':∀ g:Option (Nat × Bool),g.isNone=true→g=none:=fun g hg=>by cases g<;>first | rfl | cases hg
 refine ⟨hlen,nd,Va2 _ h2,?_,?_,?_,hfr,hfz⟩
 ·intro a ha
  have:=List.all_eq_true.1 h3 a ha
  unfold okA at this
  split at this
  ·rename_i o ho
   split at this
   ·rename_i e d hop hd
    simp only [Bool.and_eq_true,decide_eq_true_eq] at this
    obtain ⟨⟨⟨g1,g2⟩,g3⟩,g4⟩:=this
    refine ⟨o,d,e,ho,hop,none' _ g1,hd,hn▸g2,fun j hj=>?_,fun τ=>?_⟩
    ·have hlt:j<ops.length:=by
      rw [Option.bind_eq_some_iff] at hj
      obtain ⟨x,hx,_⟩:=hj
      exact (Qzs.1 hx).1
     have:=List.all_eq_true.1 g3 j (by simpa using hlt)
     rw [hj] at this
     simpa using this
    ·split at g4
     ·rename_i z hzz
      rw [← hz a ha]
      unfold Wah
      rw [ho]
      simp only [hop,hzz,Option.bind_some,Uw,g4,if_true]
     ·cases g4
   ·cases this
  ·cases this
 ·intro p a u ha hu
  have hp:=(Qzs.1 ha).1
  have:=List.all_eq_true.1 h4 p (by simpa using hp)
  have hA:A.getD p 0=a:=by rw [List.getD_eq_getElem?_getD,ha];rfl
  have hU:U.getD p 0=u:=by rw [List.getD_eq_getElem?_getD,hu];rfl
  rw [hA,hU] at this
  unfold Ybw at this
  split at this
  ·rename_i o ho
   split at this
   ·rename_i ty d x hop
    simp only [Bool.and_eq_true] at this
    obtain ⟨⟨⟨⟨g1,g2⟩,g3⟩,g4⟩,g5⟩:=this
    refine ⟨o,ty,d,x,ho,hop,none' _ g1,by cases hd:o.dst<;>first | rfl | (rw [hd] at g2;cases g2),by simpa using g3,g4,fun t ht a' ha'=>?_,fun τ q hq=>hUv p a u ha hu o ty d x ho hop τ q hq⟩
    subst ht
    simp only [Yao] at g5
    simpa using List.all_eq_true.1 g5 a' ha'
   ·cases this
  ·cases this
 ·intro i o ho hiA hiU
  have hlt:=(Qzs.1 ho).1
  have:=List.all_eq_true.1 h5 i (by simpa using hlt)
  have c1:A.contains i=false:=by simpa using hiA
  have c2:U.contains i=false:=by simpa using hiU
  rw [c1,c2] at this
  simp only [Bool.false_or] at this
  unfold Ybq at this
  rw [ho] at this
  simp only [Bool.and_eq_true] at this
  refine ⟨fun t ht a ha=>?_,.inl ⟨?_,hL i o ho hiA hiU⟩⟩
  ·have h6:=List.all_eq_true.1 this.1 t ht
   simpa using List.all_eq_true.1 h6 a ha
  ·rw [none' _ this.2]
   rfl
end Ab
namespace Ab
open Go Go.RowKit Go.Proofs
attribute [local irreducible] aws awp aw1 Og Om Oc Oa Ogd Ov Ot awd Zb awh Xb Ogh Ohd awl Ogl Ohl awv Ogv Ohv Wb Vb QFn Ub QRo QBe ACode AYield
set_option maxHeartbeats 8000000 in
theorem Vel {σ:Za} {d0 d1 d2:AV} {base a b:List Oyez.Rec} (D0:DeskAt σ d0 base) (D1:DeskAt σ d1 a) (D2:DeskAt σ d2 b) (hb:(base++a++b).length≤2^40)
  (hw:∀ r∈base++a++b,r.words.length≤2^40) (second:List Bool) (fid:FuncId) (caps:List AV)
  (hch:∀ (g:Za) (i:Nat),i<(Oyez.join base a b second).conf.length→∃ (d:AV) (f:List Oyez.Rec),DeskAt σ d f∧(∀ p,Oyez.getIn f p=Oyez.pickJ second i (Oyez.getIn base p) (Oyez.getIn a p) (Oyez.getIn b p)) ∧
   ACalls Tryz.prog fid (.int .i64 i::caps) (σ++g) fun v s=>v=d∧s=σ++g) :
  ACalls Tryz.prog 141 [d0,d1,d2,.fn (.func fid) [] caps] σ fun v σ' =>
   v=.tup [Yn σ.length 0 (Oyez.join base a b second).out,Vp σ.length (Xh σ.length 0 (Oyez.join base a b second).out).length ((Oyez.join base a b second).conf.map Oyez.Chg.place)] ∧
   σ'=σ++(Xh σ.length 0 (Oyez.join base a b second).out++Xm ((Oyez.join base a b second).conf.map Oyez.Chg.place)):=by
 have hget:∀ (f:List Oyez.Rec) (p:Oyez.Place),(∀ r∈f,r.words.length≤2^40)→(Yc (Oyez.getIn f p)).length≤2^40:=by
  intro f p hf
  unfold Yc Oyez.getIn
  cases h:f.find? (fun r=>decide (r.place=p)) with
  | none=>simp
  | some r =>
   have:=hf r (List.mem_of_find?_eq_some h)
   simp only [Option.map_some,Option.getD_some]
   omega
 have hbase:∀ r∈base,r.words.length≤2^40:=fun r hr=>hw r (by simp [hr])
 have ha':∀ r∈a,r.words.length≤2^40:=fun r hr=>hw r (by simp [hr])
 have hb':∀ r∈b,r.words.length≤2^40:=fun r hr=>hw r (by simp [hr])
 obtain ⟨r0,rfl⟩:∃ r,d0=.ptr r 0:=D0.ex.imp fun r h=>by obtain ⟨m,h,_⟩:=h;exact h
 obtain ⟨r1,rfl⟩:∃ r,d1=.ptr r 0:=D1.ex.imp fun r h=>by obtain ⟨m,h,_⟩:=h;exact h
 obtain ⟨r2,rfl⟩:∃ r,d2=.ptr r 0:=D2.ex.imp fun r h=>by obtain ⟨m,h,_⟩:=h;exact h
 refine ACalls.canon ?_
 obtain ⟨ps,hps⟩:∃ ps,Oyez.placesOf ((base++a++b).map Oyez.Rec.place)=ps:=⟨_,rfl⟩
 have hjn:Oyez.join base a b second=Oyez.jk base a b second ps ps.length:=by
  unfold Oyez.join Oyez.jk
  rw [hps,List.take_length]
 have hpl:ps.length≤2^40:=by
  have:=Oyez.placesOf_len ((base++a++b).map Oyez.Rec.place)
  rw [hps,List.length_map] at this
  omega
 rw [hjn] at hch ⊢
 refine Yb Tryz.func141 rfl (Va Tryz.func141 (by decide) rfl) ?_
 simp [-Xa,-Ze,Tryz.ntmps141]
 refine StA.of ((Ugu (fs:=[base,a,b]) (σ:=σ++[.cells [.ptr r0 0,.ptr r1 0,.ptr r2 0]]) (v:=.arr 1 σ.length 0 3) ⟨σ.length,[.ptr r0 0,.ptr r1 0,.ptr r2 0],rfl,by simp,rfl,fun i f d hf hd=>?_⟩ (by simpa using hb) (by simp)).mono ?_)
 ·match i,hf,hd with
  | 0,hf,hd=>simp at hf hd;subst hf;subst hd;exact D0.more _
  | 1,hf,hd=>simp at hf hd;subst hf;subst hd;exact D1.more _
  | 2,hf,hd=>simp at hf hd;subst hf;subst hd;exact D2.more _
  | i+3,hf,_=>simp at hf
 rintro _ _ ⟨rfl,rfl⟩
 have e3:[base,a,b].flatten=base++a++b:=by simp
 rw [e3,hps]
 simp [-Xa]
 refine Vd (fun env σ'=>∃ (u:List AV) (i:Nat) (v1 v2:AV) (g:Za),env={ t:=u }∧u.length=78∧tg u 0=.ptr r0 0∧tg u 1=.ptr r1 0∧tg u 2=.ptr r2 0∧tg u 3=.fn (.func fid) [] caps∧tg u 10=v1∧tg u 11=v2∧tg u 22=.pl 2 (ps.map Ve)∧tg u 23=.int .i64 ps.length∧tg u 24=.int .i64 i∧σ'=σ++g∧i≤ps.length∧MS σ g (Oyez.jk base a b second ps i) v1 v2)
  (fun env _=>match tg env.t 24 with | .int _ i=>ps.length - i.toNat | _=>0) ⟨_,0,.nils,.nils,_,rfl,by simp,by simp,by simp,by simp,by simp,by simp,by simp,by simp,by simp,by simp,rfl,by omega,⟨none,none,[],by simpa [Zi,Oyez.jk] using Acc.nil _ _ _,by simpa [Oyez.jk] using Acc.nil _ _ _,by simp [Oyez.jk,wne],by simp,by simp,.inl rfl,.inl rfl⟩⟩ ?_
 rintro env _ ⟨u,i,v1,v2,g,rfl,hl,g0,g1,g2,g3,g10,g11,g22,g23,g24,rfl,hi,hM⟩
 rcases Qzn i ps.length with hlt | hge
 ·have hlt':(i:Int)<(ps.length:Int):=by omega
  have hx:=w64 (n:=(i:Int)+1) (by omega) (by omega)
  have hstep:=Oyez.jk_snoc base a b second hlt
  rw [Oyez.joinAt_step] at hstep
  have hlen:=Oyez.jk_len base a b second ps i
  have hmono:=Oyez.jk_mono base a b second ps (i+1)
  obtain ⟨p,hpe⟩:∃ p,ps[i]=p:=⟨_,rfl⟩
  rw [hpe] at hstep
  have hlx:=hget base p hbase
  have hly:=hget a p ha'
  have hlz:=hget b p hb'
  obtain ⟨J,hJe⟩:∃ J,Oyez.jk base a b second ps i=J:=⟨_,rfl⟩
  rw [hJe] at hM hlen hstep
  simp [-Xa,-Ze,hl,g0,g1,g2,g3,g10,g11,g22,g23,g24,hlt',hlt,hpe]
  have hr0:r0<σ.length:=by obtain ⟨r,m,e,h1,_⟩:=D0.ex;cases e;exact (Qzs.1 h1).1
  have hr1:r1<σ.length:=by obtain ⟨r,m,e,h1,_⟩:=D1.ex;cases e;exact (Qzs.1 h1).1
  have hr2:r2<σ.length:=by obtain ⟨r,m,e,h1,_⟩:=D2.ex;cases e;exact (Qzs.1 h1).1
  obtain ⟨x,hxe⟩:∃ x,Oyez.getIn base p=x:=⟨_,rfl⟩
  obtain ⟨y,hye⟩:∃ x,Oyez.getIn a p=x:=⟨_,rfl⟩
  obtain ⟨z,hze⟩:∃ x,Oyez.getIn b p=x:=⟨_,rfl⟩
  rw [hxe,hye,hze] at hstep
  rw [hxe] at hlx
  rw [hye] at hly
  rw [hze] at hlz
  refine Uce mixed [9,10,11] [12,13,14] (fun i=>[AV.ptr r0 0,Ve p,Yj x,.ptr r1 0,Ve p,Yj y,.ptr r2 0,Ve p,Yj z].getD i .any) (fun _=>[.bool false,.nils]) (fun a=>if a=9 then [.bool x.isSome,Uc (Yc x)] else if a=10 then [.bool y.isSome,Uc (Yc y)] else [.bool z.isSome,Uc (Yc z)]) (by kernel_rfl)
   (LayA.of (n:=78) rfl rfl rfl (by kernel_rfl) (by simp [hl]) ?_ (by kernel_rfl) ?_ (by kernel_rfl) ?_ ?_ ?_) ?_
  ·intro a ha
   simp at ha
   rcases ha with rfl | rfl | rfl<;>simp [Wah]
  ·intro p' a' u' ha hu o ty d x' ho hop τ q hq
   match p',ha,hu with
   | 0,ha,hu =>
    simp at ha hu
    subst ha;subst hu
    simp at ho
    subst ho
    simp at hop
    obtain ⟨rfl,rfl,rfl⟩:=hop
    simp [Ua,tr,hq,hl,Yj]
   | 1,ha,hu =>
    simp at ha hu
    subst ha;subst hu
    simp at ho
    subst ho
    simp at hop
    obtain ⟨rfl,rfl,rfl⟩:=hop
    simp [Ua,tr,hq,hl,Yj]
   | 2,ha,hu =>
    simp at ha hu
    subst ha;subst hu
    simp at ho
    subst ho
    simp at hop
    obtain ⟨rfl,rfl,rfl⟩:=hop
    simp [Ua,tr,hq,hl,Yj]
   | p'+3,ha,_=>simp at ha
  ·intro i' o ho hA hU g'
   have hi':i'<15:=(Qzs.1 ho).1
   simp at hA hU
   have hc:i'=0∨i'=1∨i'=2∨i'=3∨i'=4∨i'=5∨i'=6∨i'=7∨i'=8:=by omega
   rcases hc with rfl | rfl | rfl | rfl | rfl | rfl | rfl | rfl | rfl
   ·simp at ho
    subst ho
    simp [Ua,tr,hl,g0,g1,g2]
   ·simp at ho
    subst ho
    simp [Ua,tr,hl,g0,g1,g2]
   ·simp at ho
    subst ho
    simp [Ua,tr,hl,g0,g1,g2]
    refine StA.of ((Ua0 (D0.more _) p).mono ?_)
    rintro _ _ ⟨rfl,rfl⟩
    rw [hxe]
    simp [Yj]
   ·simp at ho
    subst ho
    simp [Ua,tr,hl,g0,g1,g2]
   ·simp at ho
    subst ho
    simp [Ua,tr,hl,g0,g1,g2]
   ·simp at ho
    subst ho
    simp [Ua,tr,hl,g0,g1,g2]
    refine StA.of ((Ua0 (D1.more _) p).mono ?_)
    rintro _ _ ⟨rfl,rfl⟩
    rw [hye]
    simp [Yj]
   ·simp at ho
    subst ho
    simp [Ua,tr,hl,g0,g1,g2]
   ·simp at ho
    subst ho
    simp [Ua,tr,hl,g0,g1,g2]
   ·simp at ho
    subst ho
    simp [Ua,tr,hl,g0,g1,g2]
    refine StA.of ((Ua0 (D2.more _) p).mono ?_)
    rintro _ _ ⟨rfl,rfl⟩
    rw [hze]
    simp [Yj]
  ·intro j hj
   have hall:∀ v∈[AV.ptr r0 0,Ve p,Yj x,.ptr r1 0,Ve p,Yj y,.ptr r2 0,Ve p,Yj z],Fz (σ++(g++[AObj.cells [.int .i64 p.kind,.int .i64 p.number]])).length [] v v:=by
    have hpl:∀ n,Fz n [] (Ve p) (Ve p):=fun n=>Fz.agg2 (.int _ _) (.int _ _)
    have hst:∀ n w,Fz n [] (Yj w) (Yj w):=fun n w=>Fz.agg2 (.bool _) ((Yau _ _ _).2 trivial)
    intro v hv
    simp only [List.mem_cons,List.not_mem_nil,or_false] at hv
    rcases hv with rfl | rfl | rfl | rfl | rfl | rfl | rfl | rfl | rfl
    ·exact .ptr _ _ (by simp;omega)
    ·exact hpl _
    ·exact hst _ _
    ·exact .ptr _ _ (by simp;omega)
    ·exact hpl _
    ·exact hst _ _
    ·exact .ptr _ _ (by simp;omega)
    ·exact hpl _
    ·exact hst _ _
   rw [List.getD_eq_getElem?_getD]
   cases hv:([AV.ptr r0 0,Ve p,Yj x,.ptr r1 0,Ve p,Yj y,.ptr r2 0,Ve p,Yj z])[j]? with
   | none=>exact .any _
   | some v=>exact hall v (Qzg hv)
  ·intro a' ha2 y' hy
   have hst:∀ n (w:Oyez.St),∀ y'∈[AV.bool w.isSome,Uc (Yc w)],Fz n [] y' y':=fun n w y' hy=>by
    simp only [List.mem_cons,List.not_mem_nil,or_false] at hy
    rcases hy with rfl | rfl
    ·exact .bool _
    ·exact (Yau _ _ _).2 trivial
   have hy2:y'∈(if a'=9 then [AV.bool x.isSome,Uc (Yc x)] else if a'=10 then [.bool y.isSome,Uc (Yc y)] else [.bool z.isSome,Uc (Yc z)]):=hy
   split at hy2
   ·exact hst _ x y' hy2
   ·split at hy2
    ·exact hst _ y y' hy2
    ·exact hst _ z y' hy2
  ·have hix0:List.idxOf 9 [9,10,11]=0:=by decide
   have hix1:List.idxOf 10 [9,10,11]=1:=by decide
   have hix2:List.idxOf 11 [9,10,11]=2:=by decide
   by_cases hyz:y=z
   ·subst hyz
    rw [Oyez.stepJ_same rfl] at hstep
    simp [-Xa,-Ze,Ua,tr,rrA,hl,hix0,hix1,hix2,Nat.add_assoc]
    refine (Xa0 y y hly).use ?_
    simp [-Xa,-Ze,hl,g0,g1,g2,g3,g10,g11,g22,g23,g24]
    cases hW:y with
    | none =>
     rw [hW] at hstep
     simp [-Xa,-Ze,hl,g0,g1,g2,g3,g10,g11,g22,g23,g24,hlt,hpe,hx,Yc,hW]
     exact ⟨⟨i+1,by simp,by omega,by rw [hstep];simpa [hW,Yc,Oyez.putJ] using (hM.more [AObj.cells [.int .i64 p.kind,.int .i64 p.number],.cells [.bool x.isSome,Uc (Yc x)],.cells [.bool y.isSome,Uc (Yc y)],.cells [.bool y.isSome,Uc (Yc y)],.cells [.bool y.isSome,Uc (Yc y)]])⟩,by omega⟩
    | some ws =>
     rw [hW] at hstep hly
     have hws:ws.length≤2^40:=hly
     obtain ⟨V1,G1,he,hM2⟩:=(hM.more [AObj.cells [.int .i64 p.kind,.int .i64 p.number],.cells [.bool x.isSome,Uc (Yc x)],.cells [.bool y.isSome,Uc (Yc y)],.cells [.bool y.isSome,Uc (Yc y)],.cells [.bool y.isSome,Uc (Yc y)]]).put (by first | omega | (simp only;omega)) p ws
     cases ws with
     | nil =>
      simp [-Xa,hW,Yc,Vl,Vi] at he
      simp [-Xa,-Ze,hl,g0,g1,g2,g3,g10,g11,g22,g23,g24,hlt,hpe,hx,Yc,hW]
      refine Yq [7,9,10] [(0,1),(0,2),(1,1),(2,1),(3,1),(4,1)] mixed (by kernel_rfl) (by kernel_rfl) ?_
      simp [-Xa,-Ze,hl,g0,g1,g2,g3,g10,g11,g22,g23,g24,hlt,hpe,hx,Yc,hW]
      refine Xr (Zae [] hws _) ?_
      simp [-Xa,-Ze,hl,g0,g1,g2,g3,g10,g11,g22,g23,g24,hlt,hpe,hx,Yc,hW,he,Vl,Vi]
      exact ⟨⟨i+1,by simp,by omega,by rw [hstep];exact hM2⟩,by omega⟩
     | cons w t =>
      simp [-Xa,hW,Yc,Vl,Vi] at he
      simp [-Xa,-Ze,hl,g0,g1,g2,g3,g10,g11,g22,g23,g24,hlt,hpe,hx,Yc,hW]
      refine Yq [7,9,10] [(0,1),(0,2),(1,1),(2,1),(3,1),(4,1)] mixed (by kernel_rfl) (by kernel_rfl) ?_
      simp [-Xa,-Ze,hl,g0,g1,g2,g3,g10,g11,g22,g23,g24,hlt,hpe,hx,Yc,hW]
      refine Xr (Zae (w::t) hws _) ?_
      simp [-Xa,-Ze,hl,g0,g1,g2,g3,g10,g11,g22,g23,g24,hlt,hpe,hx,Yc,hW,he,Vl,Vi]
      exact ⟨⟨i+1,by simp,by omega,by rw [hstep];exact hM2⟩,by omega⟩
   ·simp [-Xa,-Ze,Ua,tr,rrA,hl,hix0,hix1,hix2,Nat.add_assoc]
    refine (Xa0 y z hly).use ?_
    simp [-Xa,-Ze,hl,g0,g1,g2,g3,g10,g11,g22,g23,g24,hlt,hpe,hyz]
    refine (Xa0 z x hlz).use ?_
    by_cases hzx:z=x
    ·rw [Oyez.stepJ_zx hzx] at hstep
     subst hzx
     simp [-Xa,-Ze,hl,g0,g1,g2,g3,g10,g11,g22,g23,g24,hlt,hpe]
     cases hW:y with
     | none =>
      rw [hW] at hstep
      simp [-Xa,-Ze,hl,g0,g1,g2,g3,g10,g11,g22,g23,g24,hlt,hpe,hx,Yc,hW]
      exact ⟨⟨i+1,by simp,by omega,by rw [hstep];simpa [hW,Yc,Oyez.putJ] using (hM.more [AObj.cells [.int .i64 p.kind,.int .i64 p.number],.cells [.bool z.isSome,Uc (Yc z)],.cells [.bool y.isSome,Uc (Yc y)],.cells [.bool z.isSome,Uc (Yc z)],.cells [.bool y.isSome,Uc (Yc y)]])⟩,by omega⟩
     | some ws =>
      rw [hW] at hstep hly
      have hws:ws.length≤2^40:=hly
      obtain ⟨V1,G1,he,hM2⟩:=(hM.more [AObj.cells [.int .i64 p.kind,.int .i64 p.number],.cells [.bool z.isSome,Uc (Yc z)],.cells [.bool y.isSome,Uc (Yc y)],.cells [.bool z.isSome,Uc (Yc z)],.cells [.bool y.isSome,Uc (Yc y)]]).put (by first | omega | (simp only;omega)) p ws
      cases ws with
      | nil =>
       simp [-Xa,hW,Yc,Vl,Vi] at he
       simp [-Xa,-Ze,hl,g0,g1,g2,g3,g10,g11,g22,g23,g24,hlt,hpe,hx,Yc,hW]
       refine Yq [7,9,10] [(0,1),(0,2),(1,1),(2,1),(3,1),(4,1)] mixed (by kernel_rfl) (by kernel_rfl) ?_
       simp [-Xa,-Ze,hl,g0,g1,g2,g3,g10,g11,g22,g23,g24,hlt,hpe,hx,Yc,hW]
       refine Xr (Zae [] hws _) ?_
       simp [-Xa,-Ze,hl,g0,g1,g2,g3,g10,g11,g22,g23,g24,hlt,hpe,hx,Yc,hW,he,Vl,Vi]
       exact ⟨⟨i+1,by simp,by omega,by rw [hstep];exact hM2⟩,by omega⟩
      | cons w t =>
       simp [-Xa,hW,Yc,Vl,Vi] at he
       simp [-Xa,-Ze,hl,g0,g1,g2,g3,g10,g11,g22,g23,g24,hlt,hpe,hx,Yc,hW]
       refine Yq [7,9,10] [(0,1),(0,2),(1,1),(2,1),(3,1),(4,1)] mixed (by kernel_rfl) (by kernel_rfl) ?_
       simp [-Xa,-Ze,hl,g0,g1,g2,g3,g10,g11,g22,g23,g24,hlt,hpe,hx,Yc,hW]
       refine Xr (Zae (w::t) hws _) ?_
       simp [-Xa,-Ze,hl,g0,g1,g2,g3,g10,g11,g22,g23,g24,hlt,hpe,hx,Yc,hW,he,Vl,Vi]
       exact ⟨⟨i+1,by simp,by omega,by rw [hstep];exact hM2⟩,by omega⟩
    ·simp [-Xa,-Ze,hl,g0,g1,g2,g3,g10,g11,g22,g23,g24,hlt,hpe,hzx]
     refine (Xa0 y x hly).use ?_
     by_cases hyx:y=x
     ·rw [Oyez.stepJ_yx hyz hyx] at hstep
      subst hyx
      simp [-Xa,-Ze,hl,g0,g1,g2,g3,g10,g11,g22,g23,g24,hlt,hpe]
      cases hW:z with
      | none =>
       rw [hW] at hstep
       simp [-Xa,-Ze,hl,g0,g1,g2,g3,g10,g11,g22,g23,g24,hlt,hpe,hx,Yc,hW]
       exact ⟨⟨i+1,by simp,by omega,by rw [hstep];simpa [hW,Yc,Oyez.putJ] using (hM.more [AObj.cells [.int .i64 p.kind,.int .i64 p.number],.cells [.bool y.isSome,Uc (Yc y)],.cells [.bool y.isSome,Uc (Yc y)],.cells [.bool z.isSome,Uc (Yc z)],.cells [.bool z.isSome,Uc (Yc z)]])⟩,by omega⟩
      | some ws =>
       rw [hW] at hstep hlz
       have hws:ws.length≤2^40:=hlz
       obtain ⟨V1,G1,he,hM2⟩:=(hM.more [AObj.cells [.int .i64 p.kind,.int .i64 p.number],.cells [.bool y.isSome,Uc (Yc y)],.cells [.bool y.isSome,Uc (Yc y)],.cells [.bool z.isSome,Uc (Yc z)],.cells [.bool z.isSome,Uc (Yc z)]]).put (by first | omega | (simp only;omega)) p ws
       cases ws with
       | nil =>
        simp [-Xa,hW,Yc,Vl,Vi] at he
        simp [-Xa,-Ze,hl,g0,g1,g2,g3,g10,g11,g22,g23,g24,hlt,hpe,hx,Yc,hW]
        refine Yq [7,9,10] [(0,1),(0,2),(1,1),(2,1),(3,1),(4,1)] mixed (by kernel_rfl) (by kernel_rfl) ?_
        simp [-Xa,-Ze,hl,g0,g1,g2,g3,g10,g11,g22,g23,g24,hlt,hpe,hx,Yc,hW]
        refine Xr (Zae [] hws _) ?_
        simp [-Xa,-Ze,hl,g0,g1,g2,g3,g10,g11,g22,g23,g24,hlt,hpe,hx,Yc,hW,he,Vl,Vi]
        exact ⟨⟨i+1,by simp,by omega,by rw [hstep];exact hM2⟩,by omega⟩
       | cons w t =>
        simp [-Xa,hW,Yc,Vl,Vi] at he
        simp [-Xa,-Ze,hl,g0,g1,g2,g3,g10,g11,g22,g23,g24,hlt,hpe,hx,Yc,hW]
        refine Yq [7,9,10] [(0,1),(0,2),(1,1),(2,1),(3,1),(4,1)] mixed (by kernel_rfl) (by kernel_rfl) ?_
        simp [-Xa,-Ze,hl,g0,g1,g2,g3,g10,g11,g22,g23,g24,hlt,hpe,hx,Yc,hW]
        refine Xr (Zae (w::t) hws _) ?_
        simp [-Xa,-Ze,hl,g0,g1,g2,g3,g10,g11,g22,g23,g24,hlt,hpe,hx,Yc,hW,he,Vl,Vi]
        exact ⟨⟨i+1,by simp,by omega,by rw [hstep];exact hM2⟩,by omega⟩
     ·rw [Oyez.stepJ_clash hyz hyx hzx] at hstep
      have hci:J.conf.length<(Oyez.jk base a b second ps ps.length).conf.length:=by
       rw [hstep] at hmono
       simp [Oyez.putJ] at hmono
       omega
      obtain ⟨w,hwe⟩:∃ w,Oyez.pickJ second J.conf.length x y z=w:=⟨_,rfl⟩
      have hlw:(Yc w).length≤2^40:=by
       rw [← hwe]
       unfold Oyez.pickJ
       split
       ·exact hlx
       ·split
        ·exact hlz
        ·exact hly
      rw [hwe] at hstep
      obtain ⟨d,f,hd,hfe,hcall⟩:=hch (g++[AObj.cells [.int .i64 p.kind,.int .i64 p.number],.cells [.bool x.isSome,Uc (Yc x)],.cells [.bool y.isSome,Uc (Yc y)],.cells [.bool z.isSome,Uc (Yc z)],.cells [.bool y.isSome,Uc (Yc y)]]) J.conf.length hci
      have hfp:=hfe p
      rw [hxe,hye,hze,hwe] at hfp
      obtain ⟨rd,rfl⟩:∃ r,d=.ptr r 0:=hd.ex.imp fun r h=>by obtain ⟨m,h,_⟩:=h;exact h
      have hlV:=(hM.more [AObj.cells [.int .i64 p.kind,.int .i64 p.number],.cells [.bool x.isSome,Uc (Yc x)],.cells [.bool y.isSome,Uc (Yc y)],.cells [.bool z.isSome,Uc (Yc z)],.cells [.bool y.isSome,Uc (Yc y)]]).len
      obtain ⟨V2,G2,hc,hJc,hkp⟩:=hM.clashY (by omega) (Oyez.chg p y z) [AObj.cells [.int .i64 p.kind,.int .i64 p.number],.cells [.bool x.isSome,Uc (Yc x)],.cells [.bool y.isSome,Uc (Yc y)],.cells [.bool z.isSome,Uc (Yc z)],.cells [.bool w.isSome,Uc (Yc w)]]
      have hk0:=hkp 0 _ rfl
      have hk4:=hkp 4 _ rfl
      simp [-Xa,Oyez.chg] at hc
      simp [-Ze] at hlV hk0 hk4
      have hk0a:∀ Y:Za,(G2++Y)[g.length]? = _:=fun Y=>Vr hk0
      have hk4a:∀ Y:Za,(G2++Y)[g.length+4]? = _:=fun Y=>Vr hk4
      simp [-Xa,-Ze,hl,g0,g1,g2,g3,g10,g11,g22,g23,g24,hlt,hpe,hyx]
      refine Vag [6] mixed (by kernel_rfl) ?_
      simp [-Xa,-Ze,hl,g0,g1,g2,g3,g10,g11,g22,g23,g24,hlt,hpe,hlV]
      refine Ya4 (by simpa using hcall) ?_
      refine Ya4 (Ua0 (hd.more _) p) ?_
      rw [hfp]
      simp [-Xa,-Ze,hl,g0,g1,g2,g3,g10,g11,g22,g23,g24,hlt,hpe,Yj,hc]
      cases hW:w with
      | none =>
       rw [hW] at hstep
       simp [-Xa,-Ze,hl,g0,g1,g2,g3,g10,g11,g22,g23,g24,hlt,hpe,hx,Yc,hW,hc,hk0,hk4,hk0a,hk4a,Yj]
       exact ⟨⟨i+1,by simp,by omega,by rw [hstep];simpa [hW,Yc,Oyez.putJ] using hJc⟩,by omega⟩
      | some ws =>
       rw [hW] at hstep hlw
       have hws:ws.length≤2^40:=hlw
       obtain ⟨V1,G1,he,hM2⟩:=hJc.put (by first | omega | (simp only;omega)) p ws
       cases ws with
       | nil =>
        simp [-Xa,hW,Yc,Vl,Vi] at he
        simp [-Xa,-Ze,hl,g0,g1,g2,g3,g10,g11,g22,g23,g24,hlt,hpe,hx,Yc,hW,hc,hk0,hk4,hk0a,hk4a,Yj]
        refine Yq [7,9,10] [(0,1),(0,2),(1,1),(2,1),(3,1),(4,1)] mixed (by kernel_rfl) (by kernel_rfl) ?_
        simp [-Xa,-Ze,hl,g0,g1,g2,g3,g10,g11,g22,g23,g24,hlt,hpe,hx,Yc,hW,hc,hk0,hk4,hk0a,hk4a,Yj]
        refine Xr (Zae [] hws _) ?_
        simp [-Xa,-Ze,hl,g0,g1,g2,g3,g10,g11,g22,g23,g24,hlt,hpe,hx,Yc,hW,he,Vl,Vi,hc,hk0,hk4,hk0a,hk4a,Yj]
        exact ⟨⟨i+1,by simp,by omega,by rw [hstep];exact hM2⟩,by omega⟩
       | cons w t =>
        simp [-Xa,hW,Yc,Vl,Vi] at he
        simp [-Xa,-Ze,hl,g0,g1,g2,g3,g10,g11,g22,g23,g24,hlt,hpe,hx,Yc,hW,hc,hk0,hk4,hk0a,hk4a,Yj]
        refine Yq [7,9,10] [(0,1),(0,2),(1,1),(2,1),(3,1),(4,1)] mixed (by kernel_rfl) (by kernel_rfl) ?_
        simp [-Xa,-Ze,hl,g0,g1,g2,g3,g10,g11,g22,g23,g24,hlt,hpe,hx,Yc,hW,hc,hk0,hk4,hk0a,hk4a,Yj]
        refine Xr (Zae (w::t) hws _) ?_
        simp [-Xa,-Ze,hl,g0,g1,g2,g3,g10,g11,g22,g23,g24,hlt,hpe,hx,Yc,hW,he,Vl,Vi,hc,hk0,hk4,hk0a,hk4a,Yj]
        exact ⟨⟨i+1,by simp,by omega,by rw [hstep];exact hM2⟩,by omega⟩
 ·obtain rfl:i=ps.length:=by omega
  have hge':¬ (ps.length:Int)<(ps.length:Int):=by omega
  obtain ⟨m,m1,m2,m3,m4,m5⟩:=hM.canon
  simp [-Xa,-Ze,hl,g0,g1,g2,g3,g10,g11,g22,g23,g24]
  exact ⟨_,m,m1,m2,fun i' o' h=>by obtain ⟨j,o,a1,a2,a3⟩:=m3 i' o' h;exact ⟨j,a1,o,a2,a3⟩,.tup [Yn σ.length 0 (Oyez.jk base a b second ps ps.length).out,Vp σ.length (Xh σ.length 0 (Oyez.jk base a b second ps ps.length).out).length ((Oyez.jk base a b second ps ps.length).conf.map Oyez.Chg.place)],.tup _ _ rfl (RnL.cons m4 (RnL.cons m5 (RnL.nil _ _))).2,rfl,rfl⟩
end Ab

/-
  Texts packed for a claim.
-/
import Derived.Test.YtdifgaapdnbliaaGreatDoorS00
import Derived.Test.YtdifgaapdnbliaaGreatDoorS26
import Derived.Test.YtdifgaapdnbliaaGreatDoorS27
import Derived.Test.YtdifgaapdnbliaaGreatDoorS33
import Derived.Test.YtdifgaapdnbliaaGreatDoorS30
import Derived.Test.YtdifgaapdnbliaaGreatDoorS31
set_option linter.all false
namespace Oyez
theorem findC_mem {l:List Chg} {p:Place} {c:Chg} (h:findC l p=some c):c∈l∧c.place=p:=by
 unfold findC at h
 exact ⟨List.mem_of_find?_eq_some h,by simpa using List.find?_some h⟩
theorem Vbj {l:List Place} (h:Sorted l):l.Nodup:=h.imp fun {p q} h e=>by rw [e,Place.lt_irrefl] at h;cases h
theorem Was:∀ {l:List Chg},Sorted (l.map Chg.place)→∀ {c:Chg},c∈l→findC l c.place=some c:=by
 intro l
 induction l with
 | nil=>intro _ c h;simp at h
 | cons d t ih =>
  intro hs c hc
  rw [List.map_cons] at hs
  obtain ⟨h1,h2⟩:=List.pairwise_cons.1 hs
  unfold findC
  rw [List.find?_cons]
  by_cases e:d.place=c.place
  ·rw [e]
   simp only [decide_true]
   rcases List.mem_cons.1 hc with rfl | hm
   ·rfl
   ·have:=h1 c.place (List.mem_map_of_mem hm)
    rw [e,Place.lt_irrefl] at this
    cases this
  ·simp only [e,decide_false]
   rcases List.mem_cons.1 hc with rfl | hm
   ·exact absurd rfl e
   ·exact ih h2 hm
theorem Wcy {l:List Chg} {p:Place} (h:p∈l.map Chg.place):∃ c,findC l p=some c:=by
 obtain ⟨c,hc,rfl⟩:=List.mem_map.1 h
 cases hf:findC l c.place with
 | some d=>exact ⟨d,rfl⟩
 | none =>
  unfold findC at hf
  rw [List.find?_eq_none] at hf
  exact absurd (decide_eq_true rfl) (hf c hc)
def aft1 (y:List Chg) (c:Chg):Option Chg:=match findC y c.place with
 | none=>some c
 | some d=>if c.was=d.now then none else some (chg c.place c.was d.now)
def clash1 (y:List Chg) (c:Chg):Prop:=∃ d,findC y c.place=some d∧c.now≠d.was
theorem Xbu {y:List Chg} {c d:Chg} (h:aft1 y c=some d):d.place=c.place:=by
 unfold aft1 at h
 split at h
 ·cases h;rfl
 ·split at h
  ·cases h
  ·cases h;rfl
def Yt (x y:List Chg) (p:Place):Option Chg:=match afterAt x y p with
 | .ok o=>o
 | .error _=>none
theorem Wb6 {x y:List Chg} {p:Place} {c:Chg} (h:Yt x y p=some c):c.place=p:=by
 unfold Yt afterAt at h
 cases hx:findC x p with
 | none =>
  cases hy:findC y p with
  | none=>simp [hx,hy] at h
  | some d=>simp [hx,hy] at h;subst h;exact (findC_mem hy).2
 | some e =>
  cases hy:findC y p with
  | none=>simp [hx,hy] at h;subst h;exact (findC_mem hx).2
  | some d =>
   simp only [hx,hy] at h
   by_cases h1:e.now=d.was
   ·by_cases h2:e.was=d.now
    ·simp [h1,h2] at h
    ·simp [h1,h2] at h;subst h;rfl
   ·simp [h1] at h
theorem Ydr {x y:List Chg}:∀ {ps:List Place},(∃ p∈ps,afterAt x y p=.error ())→afterL x y ps=.error ():=by
 intro ps
 induction ps with
 | nil=>rintro ⟨p,hp,_⟩;simp at hp
 | cons q t ih =>
  rintro ⟨p,hp,he⟩
  rw [afterL]
  rcases List.mem_cons.1 hp with rfl | hp
  ·rw [he]
  ·have:=ih ⟨p,hp,he⟩
   cases hq:afterAt x y q with
   | error e=>rfl
   | ok o =>
    cases o with
    | none=>exact this
    | some c=>simp only [this]
theorem Xei {x y:List Chg}:∀ {ps:List Place},(∀ p∈ps,∃ o,afterAt x y p=.ok o)→afterL x y ps=.ok (ps.filterMap (Yt x y)):=by
 intro ps
 induction ps with
 | nil=>intro _;rfl
 | cons q t ih =>
  intro h
  have ht:=ih fun p hp=>h p (List.mem_cons_of_mem _ hp)
  obtain ⟨o,ho⟩:=h q (by simp)
  rw [afterL,ho,List.filterMap_cons]
  have hq:Yt x y q=o:=by unfold Yt;rw [ho]
  rw [hq]
  cases o with
  | none=>exact ht
  | some c=>simp only [ht]
theorem afterL_app {x y:List Chg} (b:List Place):∀ {a:List Place},afterL x y (a++b)=match afterL x y a with
  | .error _=>.error ()
  | .ok l=>match afterL x y b with
   | .error _=>.error ()
   | .ok m=>.ok (l++m):=by
 intro a
 induction a with
 | nil =>
  simp only [List.nil_append,afterL]
  cases afterL x y b<;>rfl
 | cons q t ih =>
  rw [List.cons_append,afterL,afterL]
  cases hq:afterAt x y q with
  | error e=>rfl
  | ok o =>
   cases o with
   | none=>exact ih
   | some c =>
    simp only [ih]
    cases afterL x y t with
    | error e=>rfl
    | ok l =>
     cases afterL x y b with
     | error e=>rfl
     | ok m=>rfl
theorem afterL_snoc {x y:List Chg} {a:List Place} {l:List Chg} (h:afterL x y a=.ok l) (p:Place):afterL x y (a++[p])=match afterAt x y p with
  | .error _=>.error ()
  | .ok none=>.ok l
  | .ok (some c)=>.ok (l++[c]):=by
 rw [afterL_app,h]
 simp only [afterL]
 cases afterAt x y p with
 | error e=>rfl
 | ok o=>cases o<;>simp
theorem afterL_len {x y:List Chg}:∀ {ps:List Place} {l:List Chg},afterL x y ps=.ok l→l.length≤ps.length:=by
 intro ps
 induction ps with
 | nil=>intro l h;cases h;simp
 | cons q t ih =>
  intro l h
  rw [afterL] at h
  cases hq:afterAt x y q with
  | error e=>rw [hq] at h;cases h
  | ok o =>
   rw [hq] at h
   cases o with
   | none=>have:=ih h;rw [List.length_cons];omega
   | some c =>
    simp only at h
    cases ht:afterL x y t with
    | error e=>rw [ht] at h;cases h
    | ok m =>
     rw [ht] at h
     cases h
     have:=ih ht
     simp only [List.length_cons]
     omega
theorem after_clash {x y:List Chg} (hx:Sorted (x.map Chg.place)) {c:Chg} (hc:c∈x) (h:clash1 y c):after x y=.error ():=by
 unfold after
 refine Ydr ⟨c.place,(Zx _ _).2 (List.mem_map_of_mem (List.mem_append_left _ hc)),?_⟩
 obtain ⟨d,hd,hne⟩:=h
 unfold afterAt
 rw [Was hx hc,hd]
 simp only
 rw [if_neg hne]
theorem Xdh {x y:List Chg} (h:∀ c∈x,¬ clash1 y c):after x y=.ok ((placesOf ((x++y).map Chg.place)).filterMap (Yt x y)):=by
 unfold after
 refine Xei fun p _=>?_
 unfold afterAt
 cases hx:findC x p with
 | none=>cases findC y p<;>exact ⟨_,rfl⟩
 | some c =>
  cases hy:findC y p with
  | none=>exact ⟨_,rfl⟩
  | some d =>
   obtain ⟨hc,rfl⟩:=findC_mem hx
   have:c.now=d.was:=Classical.byContradiction fun e=>h c hc ⟨d,hy,e⟩
   simp only
   rw [if_pos this]
   exact ⟨_,rfl⟩
def aftA (x y:List Chg):List Chg:=x.filterMap (aft1 y)++y.filter fun d=>decide (d.place∉x.map Chg.place)
theorem Wdn {x y:List Chg} (hx:Sorted (x.map Chg.place)) (hy:Sorted (y.map Chg.place)) (h:∀ c∈x,¬ clash1 y c) (c:Chg):c∈(placesOf ((x++y).map Chg.place)).filterMap (Yt x y)↔c∈aftA x y:=by
 unfold aftA
 rw [List.mem_append,List.mem_filterMap,List.mem_filterMap,List.mem_filter]
 constructor
 ·rintro ⟨p,hp,hc⟩
  have hcp:=Wb6 hc
  unfold Yt afterAt at hc
  cases h1:findC x p with
  | none =>
   cases h2:findC y p with
   | none=>simp [h1,h2] at hc
   | some d =>
    simp [h1,h2] at hc
    subst hc
    refine .inr ⟨(findC_mem h2).1,?_⟩
    simp only [decide_eq_true_eq]
    intro hm
    rw [hcp] at hm
    obtain ⟨e,he⟩:=Wcy hm
    rw [h1] at he
    cases he
  | some e =>
   obtain ⟨he,hep⟩:=findC_mem h1
   cases h2:findC y p with
   | none =>
    simp [h1,h2] at hc
    subst hc
    exact .inl ⟨e,he,by unfold aft1;rw [hep,h2]⟩
   | some d =>
    have hnc:e.now=d.was:=Classical.byContradiction fun q=>h e he ⟨d,by rw [hep];exact h2,q⟩
    simp only [h1,h2,if_pos hnc] at hc
    refine .inl ⟨e,he,?_⟩
    unfold aft1
    rw [hep,h2]
    simp only
    split at hc
    ·cases hc
    ·rename_i hw
     rw [if_neg hw]
     exact hc
 ·rintro (⟨e,he,hc⟩ | ⟨hc,hn⟩)
  ·refine ⟨e.place,(Zx _ _).2 (List.mem_map_of_mem (List.mem_append_left _ he)),?_⟩
   unfold Yt afterAt
   rw [Was hx he]
   unfold aft1 at hc
   cases h2:findC y e.place with
   | none=>rw [h2] at hc;exact hc
   | some d =>
    have hnc:e.now=d.was:=Classical.byContradiction fun q=>h e he ⟨d,h2,q⟩
    rw [h2] at hc
    simp only [if_pos hnc]
    simp only at hc
    split at hc
    ·cases hc
    ·rename_i hw
     rw [if_neg hw]
     exact hc
  ·simp only [decide_eq_true_eq] at hn
   refine ⟨c.place,(Zx _ _).2 (List.mem_map_of_mem (List.mem_append_right _ hc)),?_⟩
   unfold Yt afterAt
   rw [findC_none hn,Was hy hc]
theorem Vd9 (x y:List Chg) {ps:List Place} (h:Sorted ps):Sorted ((ps.filterMap (Yt x y)).map Chg.place):=by
 have:(ps.filterMap (Yt x y)).map Chg.place=ps.filter fun p=>(Yt x y p).isSome:=by
  clear h
  induction ps with
  | nil=>rfl
  | cons p t ih =>
   rw [List.filterMap_cons,List.filter_cons]
   cases hF:Yt x y p with
   | none=>simp [ih]
   | some c=>simp [ih,Wb6 hF]
 rw [this]
 exact h.filter _
theorem Yez {l l':List Chg} (hs:Sorted (l.map Chg.place)) (hs':Sorted (l'.map Chg.place)) (h:∀ c,c∈l↔c∈l'):l=l':=by
 have e:l.map Chg.place=l'.map Chg.place:=Ubf hs hs' fun q=>by
  simp only [List.mem_map]
  exact ⟨fun ⟨c,hc,e⟩=>⟨c,(h c).1 hc,e⟩,fun ⟨c,hc,e⟩=>⟨c,(h c).2 hc,e⟩⟩
 have hl:l.length=l'.length:=by simpa using congrArg List.length e
 refine List.ext_getElem hl fun i h1 h2=>?_
 have hp:l[i].place=l'[i].place:=by
  have:=congrArg (fun m=>m[i]?) e
  simp only [Qzp,Qze h1,Qze h2,Option.map_some,Option.some.injEq] at this
  exact this
 have g1:=Was hs' ((h l[i]).1 (List.getElem_mem h1))
 have g2:=Was hs' (List.getElem_mem h2)
 rw [hp,g2] at g1
 exact (Option.some.inj g1).symm
theorem Ueo {x y:List Chg} (hx:Sorted (x.map Chg.place)) (hy:Sorted (y.map Chg.place)):((aftA x y).map Chg.place).Nodup:=by
 unfold aftA
 rw [List.map_append,List.nodup_append]
 have hsub:∀ p∈(x.filterMap (aft1 y)).map Chg.place,p∈x.map Chg.place:=by
  intro p hp
  obtain ⟨c,hc,rfl⟩:=List.mem_map.1 hp
  obtain ⟨e,he,hec⟩:=List.mem_filterMap.1 hc
  rw [Xbu hec]
  exact List.mem_map_of_mem he
 refine ⟨?_,?_,?_⟩
 ·have:(x.filterMap (aft1 y)).map Chg.place=(x.filter fun c=>(aft1 y c).isSome).map Chg.place:=by
   clear hx hsub
   induction x with
   | nil=>rfl
   | cons c t ih =>
    rw [List.filterMap_cons,List.filter_cons]
    cases hF:aft1 y c with
    | none=>simp [ih]
    | some d=>simp [ih,Xbu hF]
  rw [this]
  exact (Vbj hx).sublist (List.filter_sublist.map _)
 ·exact (Vbj hy).sublist (List.filter_sublist.map _)
 ·intro p hp q hq e
  subst e
  obtain ⟨d,hd,rfl⟩:=List.mem_map.1 hq
  have:=(List.mem_filter.1 hd).2
  simp only [decide_eq_true_eq] at this
  exact this (hsub _ hp)
theorem after_perm {x y l:List Chg} (hx:Sorted (x.map Chg.place)) (hy:Sorted (y.map Chg.place)) (h:∀ c∈x,¬ clash1 y c) (hp:l.Perm (aftA x y)) (ho:l.Pairwise fun c d=>d.place.lt c.place=false):after x y=.ok l:=by
 rw [Xdh h]
 congr 1
 refine Yez (Vd9 x y (Yaj _)) ?_ fun c=>?_
 ·have h1:(l.map Chg.place).Pairwise fun p q=>q.lt p=false:=List.pairwise_map.2 ho
  have h2:(l.map Chg.place).Nodup:=(hp.map Chg.place).nodup_iff.2 (Ueo hx hy)
  refine (h1.and h2).imp fun {p q} ⟨g1,g2⟩=>?_
  cases h3:p.lt q with
  | true=>rfl
  | false=>exact absurd (Place.lt_tri h3 g1) g2
 ·rw [Wdn hx hy h,hp.mem_iff]
theorem Xcg {p:Place} {q:Chg→Bool}:∀ {l:List Chg},(∀ c∈l,c.place=p→q c=true)→findC (l.filter q) p=findC l p:=by
 intro l
 induction l with
 | nil=>intro _;rfl
 | cons c t ih =>
  intro h
  have ht:=ih fun d hd=>h d (List.mem_cons_of_mem _ hd)
  unfold findC at ht ⊢
  rw [List.filter_cons]
  by_cases e:c.place=p
  ·rw [h c (by simp) e]
   simp [e]
  ·rw [List.find?_cons,show decide (c.place=p)=false by simp [e]]
   cases q c with
   | true=>simp only [if_true,List.find?_cons,show decide (c.place=p)=false by simp [e]];exact ht
   | false=>exact ht
theorem Wex {l:List Chg} (hs:Sorted (l.map Chg.place)) {i j:Nat} (hi:i<l.length) (hj:j<l.length) (hij:i≠j):l[i].place≠l[j].place:=by
 have h:=Vbj hs
 intro e
 apply hij
 have:(l.map Chg.place)[i]'(by simpa using hi)=(l.map Chg.place)[j]'(by simpa using hj):=by simpa using e
 exact (List.getElem_inj h).1 this
theorem take_notin {l:List Chg} (hs:Sorted (l.map Chg.place)) {i:Nat} (hi:i<l.length):l[i].place∉(l.take i).map Chg.place:=by
 intro h
 obtain ⟨c,hc,e⟩:=List.mem_map.1 h
 obtain ⟨j,hj,rfl⟩:=List.getElem_of_mem hc
 rw [List.length_take] at hj
 rw [List.getElem_take] at e
 exact Wex hs (by omega) hi (by omega) e
def leftC (x y:List Chg) (i:Nat):List Chg:=y.filter fun d=>decide (d.place∉(x.take i).map Chg.place)
theorem leftC_zero (x y:List Chg):leftC x y 0=y:=by
 unfold leftC
 simp
theorem leftC_succ (x y:List Chg) {i:Nat} (hi:i<x.length):leftC x y (i+1)=(leftC x y i).filter fun d=>decide (d.place≠x[i].place):=by
 unfold leftC
 rw [List.filter_filter,Qzt hi]
 congr 1
 funext d
 rw [Bool.eq_iff_iff]
 simp only [List.map_append,List.map_cons,List.map_nil,List.mem_append,List.mem_singleton,decide_eq_true_eq,Bool.and_eq_true,not_or]
 exact ⟨fun ⟨a,b⟩=>⟨b,a⟩,fun ⟨a,b⟩=>⟨b,a⟩⟩
theorem leftC_find {x y:List Chg} (hx:Sorted (x.map Chg.place)) {i:Nat} (hi:i<x.length):findC (leftC x y i) x[i].place=findC y x[i].place :=
 Xcg fun c _ e=>by
  rw [e]
  simpa using take_notin hx hi
theorem leftC_keep {x y:List Chg} {i:Nat} (hi:i<x.length) (h:findC y x[i].place=none):leftC x y (i+1)=leftC x y i:=by
 rw [leftC_succ x y hi,List.filter_eq_self]
 intro d hd
 simp only [decide_eq_true_eq]
 intro e
 unfold findC at h
 rw [List.find?_eq_none] at h
 exact h d (List.mem_filter.1 hd).1 (by simp [e])
theorem Ze3 (x y:List Chg):leftC x y x.length=y.filter fun d=>decide (d.place∉x.map Chg.place):=by
 unfold leftC
 rw [List.take_length]
theorem leftC_sorted {x y:List Chg} (hy:Sorted (y.map Chg.place)) (i:Nat):Sorted ((leftC x y i).map Chg.place):=by
 unfold leftC
 exact List.Pairwise.sublist (List.filter_sublist.map _) hy
theorem leftC_end {x y:List Chg} (hy:Sorted (y.map Chg.place)) {j:Nat} (hj:j<y.length):findC (leftC x y x.length) y[j].place=if y[j].place∈x.map Chg.place then none else some y[j]:=by
 rw [Ze3]
 split
 ·rename_i h
  apply findC_none
  intro hm
  obtain ⟨d,hd,e⟩:=List.mem_map.1 hm
  have:=(List.mem_filter.1 hd).2
  simp only [decide_eq_true_eq] at this
  exact this (e▸h)
 ·rename_i h
  rw [Xcg fun c _ e=>by rw [e];simpa using h]
  exact Was hy (List.getElem_mem hj)
theorem aft1_chg {y:List Chg} {c:Chg} (h:chgErr c=0):(findC y c.place=none→aft1 y c=some (chg c.place c.was c.now))∧∀ d,findC y c.place=some d→aft1 y c=if c.was=d.now then none else some (chg c.place c.was d.now):=by
 constructor
 ·intro e
  unfold aft1
  rw [e,chg_self h]
 ·intro d e
  unfold aft1
  rw [e]
def afterR (x y:List Chg):List Chg × Int :=
 if checkChg x≠0 then ([],checkChg x) else if checkChg y≠0 then ([],checkChg y) else match after x y with
  | .error _=>([],7)
  | .ok l=>if 80<l.length then ([],2) else (l,0)
end Oyez
namespace Ab
open Go Go.RowKit Go.Proofs
attribute [local irreducible] aws awp aw1 Og Om Oc Oa Ogd Ov Ot awd Ub awh Xc Ogh Ohd awl Ogl Ohl awv Ogv Ohv Zc Wc QFn Zd QRo QBe ACode AYield
theorem Za6 {n:Nat} {m:List Nat} (l:List (List UInt8)):ORn n m (.cells (strs l)) (.cells (strs l)):=.cells _ _ (Nat.le_refl _) (Ucc l).2
set_option maxHeartbeats 4000000 in
theorem Wbl (p:Oyez.Place) (s t:Oyez.St) (hs:(Xb s).length≤2^40) (ht:(Xb t).length≤2^40) (σ:Za) :
  ACalls Tryz.prog 110 [Xd p,Ue s,Ue t] σ fun v σ'=>v=.agg [.int .i64 p.kind,.int .i64 p.number,.bool s.isSome,.bool t.isSome,Xe σ.length (Xb s),Xe (σ.length+(Uc (Xb s)).length) (Xb t)]∧σ'=σ++(Uc (Xb s)++Uc (Xb t)):=by
 have c1:=fun S=>Xx (Xb s) hs S
 have c2:=fun S=>Xx (Xb t) ht S
 obtain ⟨ws,hws⟩:∃ w,Xb s=w:=⟨_,rfl⟩
 obtain ⟨us,hus⟩:∃ w,Xb t=w:=⟨_,rfl⟩
 obtain ⟨b1,hb1⟩:∃ b,s.isSome=b:=⟨_,rfl⟩
 obtain ⟨b2,hb2⟩:∃ b,t.isSome=b:=⟨_,rfl⟩
 unfold Ue
 rw [hws,hb1,hus,hb2]
 rw [hws] at c1
 rw [hus] at c2
 refine ACalls.canon ?_
 rcases ws with _ | ⟨w,ws⟩<;>rcases us with _ | ⟨u,us⟩
 ·refine Ua Tryz.func110 rfl (Wa Tryz.func110 (by decide) rfl) ?_
  simp [Tryz.ntmps110]
  refine Wj [10,13,15] [(0,1),(0,2),(1,1),(1,2),(2,1),(2,2),(3,1),(3,2),(4,1),(4,2),(5,1),(5,2),(6,1),(6,2),(7,1),(7,2),(11,0),(12,0)] mixed (by kernel_rfl) (by kernel_rfl) ?_
  simp [Nat.add_assoc]
  refine Vi (c1 _) ?_
  simp [Xe,Uc,Nat.add_assoc]
  refine Vi (c2 _) ?_
  simp [Xe,Uc,Nat.add_assoc]
  refine ⟨[],[],rfl,by decide,?_,.agg [.int .i64 p.kind,.int .i64 p.number,.bool b1,.bool b2,.pl 1 [],.pl 1 []],.agg _ _ rfl (RnL.cons (.int _ _) (RnL.cons (.int _ _) (RnL.cons (.bool _) (RnL.cons (.bool _) (RnL.cons (.pl0 1 1) (RnL.cons (.pl0 1 1) (RnL.nil _ _))))))).2,rfl,rfl⟩
  exact fun i o' ho=>by
   match i,ho with
   | i+0,ho=>simp at ho
 ·refine Ua Tryz.func110 rfl (Wa Tryz.func110 (by decide) rfl) ?_
  simp [Tryz.ntmps110]
  refine Wj [10,13,15] [(0,1),(0,2),(1,1),(1,2),(2,1),(2,2),(3,1),(3,2),(4,1),(4,2),(5,1),(5,2),(6,1),(6,2),(7,1),(7,2),(11,0),(12,0)] mixed (by kernel_rfl) (by kernel_rfl) ?_
  simp [Nat.add_assoc]
  refine Vi (c1 _) ?_
  simp [Xe,Uc,Nat.add_assoc]
  refine Vi (c2 _) ?_
  simp [Xe,Uc,Nat.add_assoc]
  refine ⟨[.cells (strs (u::us))],[4],rfl,by decide,?_,.agg [.int .i64 p.kind,.int .i64 p.number,.bool b1,.bool b2,.pl 1 [],.arr 1 σ.length 0 (us.length+1)],.agg _ _ rfl (RnL.cons (.int _ _) (RnL.cons (.int _ _) (RnL.cons (.bool _) (RnL.cons (.bool _) (RnL.cons (.pl0 1 1) (RnL.cons (.arr 1 0 4 0 _ rfl) (RnL.nil _ _))))))).2,rfl,rfl⟩
  exact fun i o' ho=>by
   match i,ho with
   | 0,ho =>
    simp at ho
    subst ho
    exact ⟨4,rfl,_,rfl,Za6 (u::us)⟩
   | i+1,ho=>simp at ho
 ·refine Ua Tryz.func110 rfl (Wa Tryz.func110 (by decide) rfl) ?_
  simp [Tryz.ntmps110]
  refine Wj [10,13,15] [(0,1),(0,2),(1,1),(1,2),(2,1),(2,2),(3,1),(3,2),(4,1),(4,2),(5,1),(5,2),(6,1),(6,2),(7,1),(7,2),(11,0),(12,0)] mixed (by kernel_rfl) (by kernel_rfl) ?_
  simp [Nat.add_assoc]
  refine Vi (c1 _) ?_
  simp [Xe,Uc,Nat.add_assoc]
  refine Vi (c2 _) ?_
  simp [Xe,Uc,Nat.add_assoc]
  refine ⟨[.cells (strs (w::ws))],[4],rfl,by decide,?_,.agg [.int .i64 p.kind,.int .i64 p.number,.bool b1,.bool b2,.arr 1 σ.length 0 (ws.length+1),.pl 1 []],.agg _ _ rfl (RnL.cons (.int _ _) (RnL.cons (.int _ _) (RnL.cons (.bool _) (RnL.cons (.bool _) (RnL.cons (.arr 1 0 4 0 _ rfl) (RnL.cons (.pl0 1 1) (RnL.nil _ _))))))).2,rfl,rfl⟩
  exact fun i o' ho=>by
   match i,ho with
   | 0,ho =>
    simp at ho
    subst ho
    exact ⟨4,rfl,_,rfl,Za6 (w::ws)⟩
   | i+1,ho=>simp at ho
 ·refine Ua Tryz.func110 rfl (Wa Tryz.func110 (by decide) rfl) ?_
  simp [Tryz.ntmps110]
  refine Wj [10,13,15] [(0,1),(0,2),(1,1),(1,2),(2,1),(2,2),(3,1),(3,2),(4,1),(4,2),(5,1),(5,2),(6,1),(6,2),(7,1),(7,2),(11,0),(12,0)] mixed (by kernel_rfl) (by kernel_rfl) ?_
  simp [Nat.add_assoc]
  refine Vi (c1 _) ?_
  simp [Xe,Uc,Nat.add_assoc]
  refine Vi (c2 _) ?_
  simp [Xe,Uc,Nat.add_assoc]
  refine ⟨[.cells (strs (w::ws)),.cells (strs (u::us))],[4,5],rfl,by decide,?_,.agg [.int .i64 p.kind,.int .i64 p.number,.bool b1,.bool b2,.arr 1 σ.length 0 (ws.length+1),.arr 1 (σ.length+1) 0 (us.length+1)],.agg _ _ rfl (RnL.cons (.int _ _) (RnL.cons (.int _ _) (RnL.cons (.bool _) (RnL.cons (.bool _) (RnL.cons (.arr 1 0 4 0 _ rfl) (RnL.cons (.arr 1 1 5 0 _ rfl) (RnL.nil _ _))))))).2,rfl,rfl⟩
  exact fun i o' ho=>by
   match i,ho with
   | 0,ho =>
    simp at ho
    subst ho
    exact ⟨4,rfl,_,rfl,Za6 (w::ws)⟩
   | 1,ho =>
    simp at ho
    subst ho
    exact ⟨5,rfl,_,rfl,Za6 (u::us)⟩
   | i+2,ho=>simp at ho
end Ab
namespace Ab
open Go Go.RowKit Go.Proofs
attribute [local irreducible] aws awp aw1 Og Om Oc Oa Ogd Ov Ot awd Ub awh Xc Ogh Ohd awl Ogl Ohl Zc Wc QFn Zd QRo QBe ACode AYield
section
variable [Mode]
def Zaq (p:Oyez.Place):AV:=.agg [.int .i64 p.kind,.int .i64 p.number,.un,.un,.un,.un]
theorem Ub2 (p:Oyez.Place):APure Tryz.prog 109 [Zaq p] (Xd p):=by
 refine APure.of fun σ=>?_
 refine Ua Tryz.func109 rfl (Wa Tryz.func109 (by decide) rfl) ?_
 simp [Tryz.ntmps109,Zaq]
theorem Yde (p q:Oyez.Place):APure Tryz.prog 115 [Zaq p,Zaq q] (.int .i64 (Vl p q)):=by
 refine APure.of fun σ=>?_
 refine Ua Tryz.func115 rfl (Wa Tryz.func115 (by decide) rfl) ?_
 simp [Tryz.ntmps115,Zaq]
 refine Zg mixed (by kernel_rfl) ?_
 simp
 refine Vd (Ub2 p) ?_
 refine Vd (Ub2 q) ?_
 refine Vd (Ubt p q) ?_
 simp
end
theorem Vev (x y:El 4) (W:World) (hW:GoodW W):Calls Tryz.prog 115 #[.agg x.l.toArray,.agg y.l.toArray] W fun e w'=>e=.returned (.int .i64 (Vl x.place y.place))∧∃ q os',w'=Go.Sort.grow (W.drewN q) os':=by
 have key:=Vcd (Wa Tryz.func115 (by decide) rfl) (@Yde Zak x.place y.place) hW (cargs:=[.agg x.l.toArray,.agg y.l.toArray]) (fun C _ _=>by
  have one:∀ x:El 4,VR C (Zaq x.place) (.agg x.l.toArray):=fun x=>by
   obtain ⟨t,ht⟩:=x.key
   have hl:=x.len
   have ho:=x.one
   refine .agg _ _ hl.symm fun i a c ha hc=>?_
   have hm:=ho c (Qzg hc)
   rw [ht] at hc
   match i,ha,hc with
   | 0,ha,hc=>simp at ha hc;subst ha;subst hc;exact .int _ _
   | 1,ha,hc=>simp at ha hc;subst ha;subst hc;exact .int _ _
   | 2,ha,hc=>simp at ha;subst ha;exact .un _ hm
   | 3,ha,hc=>simp at ha;subst ha;exact .un _ hm
   | 4,ha,hc=>simp at ha;subst ha;exact .un _ hm
   | 5,ha,hc=>simp at ha;subst ha;exact .un _ hm
   | i+6,ha,_=>simp at ha
  exact .cons (one x) (.cons (one y) (.nil C)))
 exact key
theorem Vej {σ:Za} {r:Nat} (rows:List AV) (hrow:∀ x∈rows,ElRow 4 x) (hr:σ[r]? = some (.cells (rows.flatMap AV.cells))) (hn:rows.length≤2^40) :
  ACalls Tryz.prog 114 [.arr 6 r 0 rows.length,.fn (.func 115) [] []] σ fun v σ'=>v=.tup []∧∃ rows':List AV,rows'.Perm rows∧rows'.Pairwise (fun x y=>(keyOf y).lt (keyOf x)=false)∧σ'=σ.set r (.cells (rows'.flatMap AV.cells)) :=
 Zbt (m:=4) Tryz.sortCh (g:=115) (fid:=114) rfl (Wa Tryz.func114 (by decide) rfl) Tryz.isAgg74 Tryz.sizeOf74 (Wa Tryz.func115 (by decide) rfl) Vev rows hrow hr (by omega)
theorem sortCh_nil:APure Tryz.prog 114 [.nils,.fn (.func 115) [] []] (.tup []):=by
 refine APure.kit (Wa Tryz.func114 (by decide) rfl) fun C cargs σ hI hv=>?_
 obtain ⟨x,q,rfl,hx,hq⟩:=hv.inv
 obtain ⟨y,q,rfl,hy,hq⟩:=hq.inv
 obtain rfl:=hq.of_nil
 cases hx
 refine (AnyF.slices_SortFunc_none Tryz.sortCh none 0 y C.w).mono ?_
 rintro e w' ⟨rfl,rfl⟩
 exact ⟨_,rfl,.tup [] [] rfl (by simp),Below.refl _ _⟩
end Ab
namespace Ab
open Go Go.RowKit Go.Proofs
theorem Acc.base {σ σ' g:Za} {k:Nat} {v:AV} {l:List AV} {o:Option Nat} (h:Acc σ g k v l o) (hl:σ.length=σ'.length):Acc σ' g k v l o:=⟨h.len,by
 have hv:=h.val
 cases o with
 | none=>exact hv
 | some j=>rw [← hl];exact hv⟩
def RW (n:Nat) (g:Za) (o:Option Nat) (w:AV) (ws:List (List UInt8)):Prop:=(ws=[]∧w=.pl 1 [])∨∃ j,w=.arr 1 (n+j) 0 ws.length∧g[j]? = some (.cells (strs ws))∧o≠some j
structure MC (σ g:Za) (L:List Oyez.Chg) (v:AV):Prop where
 ex:∃ (o:Option Nat) (vals:List AV),Acc σ g 6 v vals o∧(o=none∨vals≠[])∧(∀ j,o=some j→2≤j)∧vals.length=L.length∧∀ (i:Nat) (c:Oyez.Chg),L[i]? = some c→∃ w1 w2,vals[i]? = some (.agg [.int .i64 c.kind,.int .i64 c.number,.bool c.had,.bool c.has,w1,w2])∧RW σ.length g o w1 c.old∧RW σ.length g o w2 c.new
theorem RW.one {n:Nat} {g:Za} {o:Option Nat} {w:AV} {ws:List (List UInt8)} (h:RW n g o w ws):w.one=true:=by rcases h with ⟨_,rfl⟩ | ⟨j,rfl,_⟩<;>rfl
theorem RW.more {n:Nat} {g:Za} {o:Option Nat} {w:AV} {ws:List (List UInt8)} (h:RW n g o w ws) (X:Za):RW n (g++X) o w ws:=by
 rcases h with h | ⟨j,h1,h2,h3⟩
 ·exact .inl h
 ·exact .inr ⟨j,h1,Vf h2,h3⟩
theorem MC.nil (σ g:Za):MC σ g [] .nils:=⟨none,[],Acc.nil _ _ _,.inl rfl,fun j h=>(by cases h),rfl,fun i c h=>by simp at h⟩
theorem MC.base {σ σ' g:Za} {L:List Oyez.Chg} {v:AV} (h:MC σ g L v) (hl:σ.length=σ'.length):MC σ' g L v:=by
 obtain ⟨o,vals,h1,h0,hlo,h2,h3⟩:=h.ex
 exact ⟨o,vals,h1.base hl,h0,hlo,h2,by rw [← hl];exact h3⟩
theorem MC.more {σ g:Za} {L:List Oyez.Chg} {v:AV} (h:MC σ g L v) (X:Za):MC σ (g++X) L v:=by
 obtain ⟨o,vals,h1,h0,hlo,h2,h3⟩:=h.ex
 exact ⟨o,vals,h1.more X,h0,hlo,h2,fun i c hc=>by obtain ⟨w1,w2,a,b,d⟩:=h3 i c hc;exact ⟨w1,w2,a,b.more X,d.more X⟩⟩
theorem MC.len {σ g:Za} {L:List Oyez.Chg} {v:AV} (h:MC σ g L v) (S:Za):Vb Tryz.prog 62 v S=some (.int .i64 L.length):=by
 obtain ⟨o,vals,h1,h0,hlo,h2,_⟩:=h.ex
 have hv:=h1.val
 cases o with
 | none =>
  obtain ⟨rfl,rfl⟩:=hv
  rw [← h2]
  simp
 | some j =>
  obtain ⟨rfl,_⟩:=hv
  rw [← h2]
  simp
theorem RW.clone {n:Nat} {g Y:Za} {o:Option Nat} (ws:List (List UInt8)) (ho:∀ j,o=some j→j<g.length):RW n (g++(Uc ws++Y)) o (Xe (n+g.length) ws) ws:=by
 unfold Xe Uc
 by_cases h:ws=[]
 ·exact .inl ⟨h,by rw [if_pos h]⟩
 ·rw [if_neg h,if_neg h]
  refine .inr ⟨g.length,rfl,by simp,fun e=>?_⟩
  have:=ho _ e
  omega
theorem MC.put0 {σ g:Za} {L:List Oyez.Chg} {v:AV} (h:MC σ g L v) (hl:L.length≤2^40) (hg2:2≤g.length) (c:Oyez.Chg) :
  ∃ v' g',Ya Tryz.prog #[62,62] v (.arr 6 (σ.length+(g++(Uc c.old++Uc c.new)).length) 0 1)
   (σ++((g++(Uc c.old++Uc c.new))++[.cells [.int .i64 c.kind,.int .i64 c.number,.bool c.had,.bool c.has,Xe (σ.length+g.length) c.old,Xe (σ.length+(g.length+(Uc c.old).length)) c.new]]))=some (v',σ++g')∧MC σ g' (L++[c]) v'∧∀ j,j<2→g'[j]? = g[j]?:=by
 obtain ⟨o,vals,h1,h0,hlo,h2,h3⟩:=h.ex
 have hlt:∀ j,o=some j→j<g.length:=fun j e=>by subst e;exact h1.lt
 have n1:RW σ.length (g++(Uc c.old++Uc c.new)) o (Xe (σ.length+g.length) c.old) c.old:=RW.clone _ hlt
 have n2:RW σ.length (g++(Uc c.old++Uc c.new)) o (Xe (σ.length+(g.length+(Uc c.old).length)) c.new) c.new:=by
  have:=RW.clone (n:=σ.length) (g:=g++Uc c.old) (Y:=[]) (o:=o) c.new fun j e=>by have:=hlt j e;rw [List.length_append];omega
  rwa [List.append_nil,List.append_assoc,List.length_append] at this
 obtain ⟨v',g',o',he,hA',hgl,hkeep,ho⟩:=(h1.more (Uc c.old++Uc c.new)).push (P:=Tryz.prog) (t:=62) (e:=74) (ag:=true) (x:=.agg [.int .i64 c.kind,.int .i64 c.number,.bool c.had,.bool c.has,Xe (σ.length+g.length) c.old,Xe (σ.length+(g.length+(Uc c.old).length)) c.new])
  (by simp) (by simp) (by simp) (by omega) ⟨rfl,fun y hy=>by
   simp only [AV.cells,List.mem_cons,List.not_mem_nil,or_false] at hy
   rcases hy with rfl | rfl | rfl | rfl | rfl | rfl
   ·rfl
   ·rfl
   ·rfl
   ·rfl
   ·exact n1.one
   ·exact n2.one⟩ (by simp;omega)
 have hlo':∀ j,o'=some j→2≤j:=by
  intro j e
  rcases ho with e2 | ⟨m,hm,e2⟩
  ·exact hlo j (e2▸e)
  ·rw [e] at e2
   have:=Option.some.inj e2
   rw [List.length_append] at hm
   omega
 refine ⟨v',g',he,⟨o',vals++[_],hA',.inr (by simp),hlo',by simp [h2],fun i d hd=>?_⟩,fun j hj=>?_⟩
 rotate_left
 ·rw [hkeep j (fun e=>by have:=hlo j e.symm;omega) (by rw [List.length_append];omega),Qzl (by omega)]
 have turn:∀ {w:AV} {ws:List (List UInt8)},RW σ.length (g++(Uc c.old++Uc c.new)) o w ws→RW σ.length g' o' w ws:=by
  intro w ws hw
  rcases hw with hw | ⟨j,a1,a2,a3⟩
  ·exact .inl hw
  ·have hj:=(Qzs.1 a2).1
   refine .inr ⟨j,a1,by rw [hkeep j (fun e=>a3 e.symm) hj];exact a2,fun e=>?_⟩
   rcases ho with e2 | ⟨m,hm,e2⟩
   ·exact a3 (e2▸e)
   ·rw [e] at e2
    have:=Option.some.inj e2
    omega
 rcases Qzn i L.length with hi | hi
 ·rw [Qzl hi] at hd
  obtain ⟨w1,w2,a,b,e⟩:=h3 i d hd
  exact ⟨w1,w2,by rw [Qzl (by omega)];exact a,turn (b.more _),turn (e.more _)⟩
 ·rw [Qzr hi] at hd
  have hi0:i - L.length=0:=by
   have:=(Qzs.1 hd).1
   simp at this
   omega
  rw [hi0] at hd
  simp at hd
  subst hd
  exact ⟨_,_,by rw [Qzr (by omega),show i - vals.length=0 by omega];rfl,turn n1,turn n2⟩
theorem MC.put {σ g:Za} {a b:AObj} {L:List Oyez.Chg} {v:AV} (h:MC σ (a::b::g) L v) (hl:L.length≤2^40) (c:Oyez.Chg) :
  ∃ v' g',Ya Tryz.prog #[62,62] v (.arr 6 (σ.length+((a::b::g)++(Uc c.old++Uc c.new)).length) 0 1)
   (σ++(((a::b::g)++(Uc c.old++Uc c.new))++[.cells [.int .i64 c.kind,.int .i64 c.number,.bool c.had,.bool c.has,Xe (σ.length+(a::b::g).length) c.old,Xe (σ.length+((a::b::g).length+(Uc c.old).length)) c.new]]))=some (v',σ++(a::b::g'))∧MC σ (a::b::g') (L++[c]) v':=by
 obtain ⟨v',g',h1,h2,h3⟩:=h.put0 hl (by simp) c
 have h30:=h3 0 (by omega)
 have h31:=h3 1 (by omega)
 rcases g' with _ | ⟨p,_ | ⟨q,t⟩⟩
 ·simp at h30
 ·simp at h31
 ·simp at h30 h31
  subst h30;subst h31
  exact ⟨v',t,h1,h2⟩
theorem MC.zero {σ g:Za} {v:AV} (h:MC σ g [] v):v=.nils:=by
 obtain ⟨o,vals,h1,h0,hlo,h2,_⟩:=h.ex
 have hv:vals=[]:=List.eq_nil_of_length_eq_zero h2
 subst hv
 rcases h0 with rfl | h0
 ·exact h1.val.1
 ·exact absurd rfl h0
theorem MC.map {σ g:Za} {a:AObj} {es:List (AV × AV)} {L:List Oyez.Chg} {v:AV} (h:MC σ (a::.map es::g) L v) (es':List (AV × AV)):MC σ (a::.map es'::g) L v:=by
 have key:∀ (j:Nat) (cs:List AV),(a::.map es::g)[j]? = some (.cells cs)→(a::.map es'::g)[j]? = some (.cells cs):=by
  intro j cs hj
  match j,hj with
  | 0,hj=>exact hj
  | 1,hj=>simp at hj
  | j+2,hj=>exact hj
 obtain ⟨o,vals,h1,h0,hlo,h2,h3⟩:=h.ex
 have hA:Acc σ (a::.map es'::g) 6 v vals o:=⟨h1.len,by
  have hv:=h1.val
  cases o with
  | none=>exact hv
  | some j=>exact ⟨hv.1,key j _ hv.2⟩⟩
 have turn:∀ {w:AV} {ws:List (List UInt8)},RW σ.length (a::.map es::g) o w ws→RW σ.length (a::.map es'::g) o w ws:=by
  intro w ws hw
  rcases hw with hw | ⟨j,a1,a2,a3⟩
  ·exact .inl hw
  ·exact .inr ⟨j,a1,key j _ a2,a3⟩
 exact ⟨o,vals,hA,h0,hlo,h2,fun i c hc=>by obtain ⟨w1,w2,x1,x2,x3⟩:=h3 i c hc;exact ⟨w1,w2,x1,turn x2,turn x3⟩⟩
structure OwnC (X:List (List UInt8)→List AV→Prop) (lo:Nat) (τ:Za) (L:List Oyez.Chg) (v:AV):Prop where
 row:(L=[]∧v=.nils)∨∃ r,lo≤r∧v=.arr 6 r 0 L.length∧∃ cs,τ[r]? = some (.cells cs)∧cs.length=L.length*6∧∀ (i:Nat) (c:Oyez.Chg),L[i]? = some c→∃ w1 w2,
  List.take 6 (List.drop (i*6) cs)=[.int .i64 c.kind,.int .i64 c.number,.bool c.had,.bool c.has,w1,w2] ∧
  (∀ w ws,(w,ws)=(w1,c.old)∨(w,ws)=(w2,c.new)→(ws=[]∧w=.pl 1 [])∨∃ (q:Nat) (xs:List AV),lo≤q∧q≠r∧w=.arr 1 q 0 ws.length∧τ[q]? = some (.cells xs)∧X ws xs)
theorem MC.sorted {σ g:Za} {L:List Oyez.Chg} {v:AV} (h:MC σ g L v) (hL:L≠[]):∃ (r:Nat) (vals:List AV),v=.arr 6 (σ.length+r) 0 vals.length∧vals.length=L.length∧(σ++g)[σ.length+r]? = some (.cells (vals.flatMap AV.cells))∧(∀ x∈vals,ElRow 4 x) ∧
  ∀ vals':List AV,vals'.Perm vals→vals'.Pairwise (fun x y=>(keyOf y).lt (keyOf x)=false)→∃ L':List Oyez.Chg,L'.Perm L∧L'.Pairwise (fun c d=>d.place.lt c.place=false)∧OwnC Xm σ.length ((σ++g).set (σ.length+r) (.cells (vals'.flatMap AV.cells))) L' v:=by
 obtain ⟨o,vals,h1,h0,hlo,h2,h3⟩:=h.ex
 have hv:=h1.val
 cases o with
 | none =>
  obtain ⟨rfl,rfl⟩:=hv
  exact absurd (List.eq_nil_of_length_eq_zero h2.symm) hL
 | some r =>
  obtain ⟨rfl,hg⟩:=hv
  have hgr:(σ++g)[σ.length+r]? = some (.cells (vals.flatMap AV.cells)):=by rw [Qzr (by omega),Nat.add_sub_cancel_left];exact hg
  have hrl:=(Qzs.1 hgr).1
  have hz:(vals.zip L).map Prod.fst=vals:=List.map_fst_zip (by omega)
  have hz2:(vals.zip L).map Prod.snd=L:=List.map_snd_zip (by omega)
  have hpair:∀ x∈vals.zip L,∃ w1 w2,x.1=.agg [.int .i64 x.2.kind,.int .i64 x.2.number,.bool x.2.had,.bool x.2.has,w1,w2]∧RW σ.length g (some r) w1 x.2.old∧RW σ.length g (some r) w2 x.2.new:=by
   intro x hx
   obtain ⟨i,hi⟩:=List.getElem?_of_mem hx
   rw [List.getElem?_zip_eq_some] at hi
   obtain ⟨w1,w2,a,b,d⟩:=h3 i x.2 hi.2
   rw [hi.1] at a
   exact ⟨w1,w2,Option.some.inj a,b,d⟩
  refine ⟨r,vals,rfl,h2,hgr,fun x hx=>?_,fun vals' hp hs=>?_⟩
  ·rw [← hz] at hx
   obtain ⟨y,hy,rfl⟩:=List.mem_map.1 hx
   obtain ⟨w1,w2,a,b,d⟩:=hpair y hy
   exact ⟨y.2.kind,y.2.number,[.bool y.2.had,.bool y.2.has,w1,w2],by rw [a];rfl,rfl,by simp [-AV.one,b.one,d.one];exact ⟨rfl,rfl⟩⟩
  ·obtain ⟨z',hz1,hz3⟩:=Wbr Prod.fst hp hz.symm
   have hmem:∀ x∈z',x∈vals.zip L:=fun x hx=>hz1.mem_iff.1 hx
   have hl':z'.length=L.length:=by rw [hz1.length_eq,List.length_zip];omega
   refine ⟨z'.map Prod.snd,by rw [← hz2];exact hz1.map _,?_,⟨.inr ⟨σ.length+r,by omega,by rw [List.length_map,hl',h2],_,List.getElem?_set_self hrl,?_,fun i c hc=>?_⟩⟩⟩
   ·rw [← hz3,List.pairwise_map] at hs
    rw [List.pairwise_map]
    refine hs.imp_of_mem fun {x y} hx hy hxy=>?_
    obtain ⟨_,_,a,_,_⟩:=hpair x (hmem x hx)
    obtain ⟨_,_,b,_,_⟩:=hpair y (hmem y hy)
    rw [a,b] at hxy
    exact hxy
   ·have:(vals'.flatMap AV.cells).length=vals'.length*6:=Wae _ fun x hx=>by
     rw [← hz3] at hx
     obtain ⟨y,hy,rfl⟩:=List.mem_map.1 hx
     obtain ⟨_,_,a,_,_⟩:=hpair y (hmem y hy)
     rw [a];rfl
    rw [this,← hz3,List.length_map,List.length_map]
   ·rw [Qzp,Qzm] at hc
    obtain ⟨y,hy,rfl⟩:=hc
    obtain ⟨w1,w2,a,b,d⟩:=hpair y (hmem y (Qzg hy))
    refine ⟨w1,w2,?_,fun w ws hw=>?_⟩
    ·apply List.ext_getElem?
     intro j
     rcases Qzn j 6 with hj | hj
     ·rw [List.getElem?_take_of_lt hj,List.getElem?_drop,flat_get (k:=6) _ (fun x hx=>by
       rw [← hz3] at hx
       obtain ⟨y,hy,rfl⟩:=List.mem_map.1 hx
       obtain ⟨_,_,a,_,_⟩:=hpair y (hmem y hy)
       rw [a];rfl) (by decide),show (i*6+j) / 6=i by omega,show (i*6+j) % 6=j by omega,← hz3,Qzp,hy]
      simp only [Option.map_some,Option.bind_some]
      rw [a]
      rfl
     ·rw [List.getElem?_eq_none (by simp;omega),List.getElem?_eq_none (by simpa using hj)]
    ·have key:∀ {w:AV} {ws:List (List UInt8)},RW σ.length g (some r) w ws→(ws=[]∧w=.pl 1 [])∨∃ (q:Nat) (xs:List AV),σ.length≤q∧q≠σ.length+r∧w=.arr 1 q 0 ws.length∧((σ++g).set (σ.length+r) (.cells (vals'.flatMap AV.cells)))[q]? = some (.cells xs)∧Xm ws xs:=by
      intro w ws hw
      rcases hw with hw | ⟨j,a1,a2,a3⟩
      ·exact .inl hw
      ·have hne:r≠j:=fun e=>a3 (by rw [e])
       exact .inr ⟨σ.length+j,strs ws,by omega,by omega,a1,by rw [List.getElem?_set_ne (by omega),Qzr (by omega),Nat.add_sub_cancel_left];exact a2,rfl⟩
     rcases hw with hw | hw
     ·obtain ⟨rfl,rfl⟩:=Prod.mk.inj hw;exact key b
     ·obtain ⟨rfl,rfl⟩:=Prod.mk.inj hw;exact key d
theorem Vx (k:IntKind) (n:Int):(AV.int k n).one=true:=rfl
theorem Xw (b:Bool):(AV.bool b).one=true:=rfl
theorem Yas (n:Nat) (ws:List (List UInt8)):(Xe n ws).one=true:=by unfold Xe;split<;>rfl
def Zl (l:List Oyez.Chg):List (AV × AV):=l.map fun c=>(Xd c.place,Ze c)
theorem Ubg (p:Oyez.Place):∀ (l:List Oyez.Chg) (i:Nat),Oyez.findC l p=none→Ve [1,1] [.int .i64 p.kind,.int .i64 p.number] (Zl l) i=some none:=by
 intro l
 induction l with
 | nil=>intro i _;rfl
 | cons c t ih =>
  intro i h
  unfold Oyez.findC at h
  rw [List.find?_cons] at h
  by_cases e:c.place=p
  ·simp [e] at h
  ·simp only [e,decide_false] at h
   have hne:decide (p=c.place)=false:=by simpa using fun e2:p=c.place=>e e2.symm
   have hc:Zl (c::t)=(Xd c.place,Ze c)::Zl t:=rfl
   rw [hc]
   show (match Ug [1,1] [.int .i64 p.kind,.int .i64 p.number] [.int .i64 c.place.kind,.int .i64 c.place.number] with
    | some true=>some (some (i,Ze c))
    | some false=>Ve [1,1] [.int .i64 p.kind,.int .i64 p.number] (Zl t) (i+1)
    | none=>none)=some none
   rw [Xba,hne]
   exact ih (i+1) h
theorem Xcj (p:Oyez.Place) (d:Oyez.Chg):∀ (l:List Oyez.Chg) (i:Nat),Oyez.Sorted (l.map Oyez.Chg.place)→Oyez.findC l p=some d→∃ j,Ve [1,1] [.int .i64 p.kind,.int .i64 p.number] (Zl l) i=some (some (i+j,Ze d))∧(Zl l).eraseIdx j=Zl (l.filter fun c=>decide (c.place≠p)):=by
 intro l
 induction l with
 | nil=>intro i _ h;cases h
 | cons c t ih =>
  intro i hs h
  rw [List.map_cons] at hs
  obtain ⟨s1,s2⟩:=List.pairwise_cons.1 hs
  unfold Oyez.findC at h
  rw [List.find?_cons] at h
  have hc:Zl (c::t)=(Xd c.place,Ze c)::Zl t:=rfl
  have hstep:Ve [1,1] [.int .i64 p.kind,.int .i64 p.number] (Zl (c::t)) i=(match Ug [1,1] [.int .i64 p.kind,.int .i64 p.number] [.int .i64 c.place.kind,.int .i64 c.place.number] with
    | some true=>some (some (i,Ze c))
    | some false=>Ve [1,1] [.int .i64 p.kind,.int .i64 p.number] (Zl t) (i+1)
    | none=>none):=rfl
  rw [hstep,Xba]
  by_cases e:c.place=p
  ·subst e
   simp only [decide_true,Option.some.injEq] at h
   subst h
   refine ⟨0,by simp,?_⟩
   rw [hc,List.eraseIdx_cons_zero,List.filter_cons,if_neg (by simp)]
   congr 1
   symm
   rw [List.filter_eq_self]
   intro a ha
   have:=s1 a.place (List.mem_map_of_mem ha)
   simp only [decide_eq_true_eq]
   intro e2
   rw [e2,Oyez.Place.lt_irrefl] at this
   cases this
  ·simp only [e,decide_false] at h
   have hne:decide (p=c.place)=false:=by simpa using fun e2:p=c.place=>e e2.symm
   rw [hne]
   obtain ⟨j,h1,h2⟩:=ih (i+1) s2 h
   refine ⟨j+1,?_,?_⟩
   ·show Ve [1,1] [.int .i64 p.kind,.int .i64 p.number] (Zl t) (i+1)=_
    rw [h1]
    congr 2
    congr 1
    omega
   ·rw [hc,List.eraseIdx_cons_succ,h2,List.filter_cons,if_pos (by simpa using e)]
    rfl
end Ab

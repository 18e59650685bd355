/-
  Texts packed for a claim.
-/
import Derived.Test.YtdifgaapdnbliaaGreatDoorS00
import Derived.WalkKit
import Derived.BigCall
import Derived.BigGuard
import Derived.Test.YtdifgaapdnbliaaGreatDoorS08
import Derived.Test.YtdifgaapdnbliaaGreatDoorS10
import Derived.Test.YtdifgaapdnbliaaGreatDoorS13
import Derived.Test.YtdifgaapdnbliaaGreatDoorS15
set_option linter.all false
namespace Oyez
theorem Zbe (p:Place):getIn [] p=none:=rfl
theorem getIn_cons (r:Rec) (f:List Rec) (p:Place):getIn (r::f) p=if r.place=p then some r.words else getIn f p:=by
 unfold getIn
 rw [List.find?_cons]
 by_cases h:r.place=p<;>simp [h]
theorem Vaf {f:List Rec} {p:Place} (h:p∉f.map Rec.place):getIn f p=none:=by
 induction f with
 | nil=>rfl
 | cons r t ih =>
  simp only [List.map_cons,List.mem_cons,not_or] at h
  rw [getIn_cons,if_neg (Ne.symm h.1),ih h.2]
theorem We3 (f g:List Rec) (p:Place):getIn (f++g) p=(getIn f p).or (getIn g p):=by
 induction f with
 | nil=>simp [Zbe]
 | cons r t ih =>
  rw [List.cons_append,getIn_cons,getIn_cons,ih]
  split<;>simp
def RSorted (f:List Rec):Prop:=Sorted (f.map Rec.place)
def InRange (f:List Rec):Prop:=∀ r∈f,r.place∈allPlaces
theorem Wc4 {p:Option Place} {f:List Rec} (h:checkFrom p f=0):(∀ r∈f,recErr r=0)∧RSorted f∧∀ q,p=some q→∀ r∈f,q.lt r.place=true:=by
 induction f generalizing p with
 | nil=>simp [RSorted,Sorted]
 | cons r t ih =>
  simp only [checkFrom] at h
  split at h
  ·rename_i h1;exact absurd h h1
  ·rename_i h1
   split at h
   ·cases h
   ·rename_i h2
    obtain ⟨g1,g2,g3⟩:=ih h
    have hp:∀ q,p=some q→q.lt r.place=true:=fun q hq=>by rw [hq] at h2;simpa using h2
    refine ⟨?_,?_,fun q hq x hx=>?_⟩
    ·intro x hx
     rcases List.mem_cons.1 hx with rfl | hx
     ·simpa using h1
     ·exact g1 x hx
    ·refine List.pairwise_cons.2 ⟨fun y hy=>?_,g2⟩
     obtain ⟨x,hx,rfl⟩:=List.mem_map.1 hy
     exact g3 _ rfl x hx
    ·rcases List.mem_cons.1 hx with rfl | hx
     ·exact hp q hq
     ·exact Place.lt_trans (hp q hq) (g3 _ rfl x hx)
theorem Xb9 {k n:Int} (h:placeErr k n=0):(⟨k,n⟩:Place)∈allPlaces:=by
 unfold placeErr at h
 rw [Ubm]
 split at h
 ·cases h
 ·split at h
  ·cases h
  ·show (0≤k∧k<5)∧0≤n∧n<1000
   omega
theorem recErr_place {r:Rec} (h:recErr r=0):placeErr r.kind r.number=0∧wordsErr r.kind r.number r.words=0:=by
 unfold recErr oneErr at h
 split at h
 ·rename_i h1;exact absurd h h1
 ·rename_i h1;exact ⟨by simpa using h1,h⟩
structure Right (f:List Rec):Prop where
 len:f.length≤40
 recs:∀ r∈f,recErr r=0
 sorted:RSorted f
theorem Right.range {f:List Rec} (h:Right f):InRange f:=fun r hr=>Xb9 (recErr_place (h.recs r hr)).1
theorem check_zero {f:List Rec} (h:check f=0):Right f:=by
 unfold check at h
 split at h
 ·cases h
 ·obtain ⟨h1,h2,_⟩:=Wc4 h
  exact ⟨by omega,h1,h2⟩
def recAt (F:Place→St) (p:Place):Option Rec:=(F p).map fun ws=>⟨p.kind,p.number,ws⟩
theorem Zdn {f:List Rec} (hs:RSorted f) {all:List Place} (ha:Sorted all) (hsub:∀ r∈f,r.place∈all):all.filterMap (recAt (getIn f))=f:=by
 have h1:all.filterMap (recAt (getIn f))=(f.map Rec.place).filterMap (recAt (getIn f)):=by
  rw [Xb2 (recAt (getIn f)) (fun p=>decide (p∈f.map Rec.place)) all (fun x _ hx=>by simp only [decide_eq_false_iff_not] at hx;simp [recAt,Vaf hx]),
   ← Za5 hs ha (fun p hp=>by obtain ⟨r,hr,rfl⟩:=List.mem_map.1 hp;exact hsub r hr)]
 rw [h1]
 clear h1 hsub ha
 suffices h:∀ (pre f':List Rec),f=pre++f'→(f'.map Rec.place).filterMap (recAt (getIn f))=f' by exact h [] f rfl
 intro pre f'
 induction f' generalizing pre with
 | nil=>intro _;rfl
 | cons r t ih =>
  intro e
  have hr:getIn f r.place=some r.words:=by
   rw [e,We3,Vaf,getIn_cons,if_pos rfl]
   ·rfl
   ·intro hm
    obtain ⟨x,hx,hxr⟩:=List.mem_map.1 hm
    unfold RSorted at hs
    rw [e,List.map_append,Sorted,List.pairwise_append] at hs
    have:=hs.2.2 x.place (List.mem_map_of_mem hx) r.place (by simp)
    rw [hxr,Place.lt_irrefl] at this
    cases this
  rw [List.map_cons,List.filterMap_cons]
  simp only [recAt,hr,Option.map_some]
  rw [ih (pre++[r]) (by simp [e])]
  rfl
theorem drop_sorted {f:List Rec} (h:RSorted f) (p:Place):RSorted (drop f p):=by
 unfold RSorted drop
 exact List.Pairwise.sublist (List.Sublist.map _ List.filter_sublist) h
theorem mem_drop {f:List Rec} {p:Place} {r:Rec}:r∈drop f p↔r∈f∧r.place≠p:=by simp [drop]
theorem Vco (f:List Rec) (p q:Place):getIn (drop f p) q=if q=p then none else getIn f q:=by
 induction f with
 | nil=>simp [drop,Zbe]
 | cons r t ih =>
  have e:drop (r::t) p=if r.place=p then drop t p else r::drop t p:=by
   unfold drop;rw [List.filter_cons];by_cases h:r.place=p<;>simp [h]
  rw [e,getIn_cons]
  by_cases h:r.place=p
  ·rw [if_pos h,ih]
   by_cases h2:q=p
   ·simp [h2]
   ·simp [h2,h,Ne.symm h2]
  ·rw [if_neg h,getIn_cons,ih]
   by_cases h2:r.place=q
   ·simp [h2];intro e;exact absurd (h2.trans e) h
   ·simp [h2]
theorem Yce (r x:Rec) (f:List Rec):x∈Ym r f↔x=r∨x∈f:=by
 induction f with
 | nil=>simp [Ym]
 | cons q t ih =>
  simp only [Ym]
  split
  ·simp
  ·simp [ih,or_left_comm]
theorem Zdk {r:Rec} {f:List Rec} (h:RSorted f) (hn:∀ x∈f,x.place≠r.place):RSorted (Ym r f):=by
 induction f with
 | nil=>simp [Ym,RSorted,Sorted]
 | cons q t ih =>
  have hq:=List.pairwise_cons.1 h
  simp only [Ym]
  split
  ·rename_i hp
   exact List.pairwise_cons.2 ⟨fun y hy=>by
    rcases List.mem_cons.1 hy with rfl | hy
    ·exact hp
    ·exact Place.lt_trans hp (hq.1 y hy),h⟩
  ·rename_i h1
   have h2:q.place.lt r.place=true:=by
    cases h3:q.place.lt r.place with
    | true=>rfl
    | false=>exact absurd (Place.lt_tri h3 (by simpa using h1)) (hn q (by simp))
   refine List.pairwise_cons.2 ⟨fun y hy=>?_,ih hq.2 fun x hx=>hn x (by simp [hx])⟩
   obtain ⟨x,hx,rfl⟩:=List.mem_map.1 hy
   rcases (Yce r x t).1 hx with rfl | hx
   ·exact h2
   ·exact hq.1 _ (List.mem_map_of_mem hx)
theorem Udh {r:Rec} {f:List Rec} (hn:∀ x∈f,x.place≠r.place) (p:Place):getIn (Ym r f) p=if p=r.place then some r.words else getIn f p:=by
 induction f with
 | nil =>
  simp only [Ym]
  rw [getIn_cons,Zbe]
  by_cases h:p=r.place
  ·simp [h]
  ·simp [h,Ne.symm h]
 | cons q t ih =>
  simp only [Ym]
  split
  ·rw [getIn_cons]
   by_cases h:p=r.place
   ·simp [h]
   ·simp [h,Ne.symm h]
  ·rw [getIn_cons,getIn_cons,ih fun x hx=>hn x (by simp [hx])]
   by_cases h:q.place=p
   ·rw [if_pos h,if_pos h,if_neg]
    intro e;exact hn q (by simp) (h.trans e)
   ·rw [if_neg h,if_neg h]
theorem Vbu (f:List Rec) (p:Place):∀ x∈drop f p,x.place≠p:=fun _ hx=>(mem_drop.1 hx).2
theorem Uci {f:List Rec} (h:RSorted f) (r:Rec):RSorted (put f r):=Zdk (drop_sorted h _) (Vbu f _)
theorem Vcq (f:List Rec) (r:Rec) (p:Place):getIn (put f r) p=if p=r.place then some r.words else getIn f p:=by
 unfold put
 rw [Udh (Vbu f _),Vco]
 split<;>rfl
theorem mem_put {f:List Rec} {r x:Rec} (h:x∈put f r):x=r∨x∈f:=by
 rcases (Yce r x _).1 h with h | h
 ·exact .inl h
 ·exact .inr (mem_drop.1 h).1
def Udp (r:Rec):Bool→List Rec→List Rec
 | done,[]=>if done then [] else [r]
 | done,q::t =>
  (if !done&&!q.place.lt r.place then [r] else [])++(if q.place=r.place then [] else [q])++Udp r (done||!q.place.lt r.place) t
theorem diff_eq {a b:List Rec} (ha:InRange a) (hb:InRange b):allPlaces.filterMap (diffAt a b)=diff a b:=by
 refine Vd0 _ (Yaj _) (fun p hp=>?_) (fun p hp=>?_)
 ·rw [Zx] at hp
  obtain ⟨r,hr,rfl⟩:=List.mem_map.1 hp
  rcases List.mem_append.1 hr with h | h
  ·exact ha r h
  ·exact hb r h
 ·rw [Zx,List.map_append,List.mem_append,not_or] at hp
  unfold diffAt
  rw [Vaf hp.1,Vaf hp.2,if_pos rfl]
theorem Vd4 {base a b:List Rec} (hx:InRange base) (ha:InRange a) (hb:InRange b) (second:List Bool):allPlaces.foldl (Uk base a b second) ⟨[],[]⟩=join base a b second:=by
 refine Uc2 _ (Yaj _) (fun p hp=>?_) (fun p hp s=>?_) _
 ·rw [Zx] at hp
  obtain ⟨r,hr,rfl⟩:=List.mem_map.1 hp
  rcases List.mem_append.1 hr with h | h
  ·rcases List.mem_append.1 h with h | h
   ·exact hx r h
   ·exact ha r h
  ·exact hb r h
 ·rw [Zx,List.map_append,List.map_append,List.mem_append,List.mem_append,not_or,not_or] at hp
  unfold Uk
  rw [Vaf hp.1.1,Vaf hp.1.2,Vaf hp.2]
  simp
end Oyez
namespace Oyez
def dd (l:List Place):List Place:=l.foldl (fun a q=>if a.getLast? = some q then a else a++[q]) []
theorem Xbo (l:List Place) (q:Place):dd (l++[q])=if (dd l).getLast? = some q then dd l else dd l++[q]:=by
 unfold dd
 rw [List.foldl_append]
 rfl
theorem Wdw (l:List Place) (h:l.Pairwise fun p q=>q.lt p=false):Sorted (dd l)∧(∀ q,q∈dd l↔q∈l)∧(dd l).getLast? = l.getLast?:=by
 suffices hh:∀ m:List Place,m.reverse.Pairwise (fun p q=>q.lt p=false)→Sorted (dd m.reverse)∧(∀ q,q∈dd m.reverse↔q∈m.reverse)∧(dd m.reverse).getLast? = m.reverse.getLast? by
  have:=hh l.reverse (by simpa using h)
  simpa using this
 intro m
 induction m with
 | nil=>intro _;exact ⟨List.Pairwise.nil,fun q=>by simp [dd],rfl⟩
 | cons q t ih =>
  intro hp
  rw [List.reverse_cons] at hp ⊢
  obtain ⟨h1,_,h2⟩:=List.pairwise_append.1 hp
  obtain ⟨g1,g2,g3⟩:=ih h1
  rw [Xbo]
  split
  ·rename_i he
   refine ⟨g1,fun x=>?_,by rw [he];simp⟩
   rw [g2,List.mem_append]
   constructor
   ·exact .inl
   ·rintro (hx | hx)
    ·exact hx
    ·rw [List.mem_singleton] at hx
     subst hx
     exact (g2 x).1 (List.mem_of_getLast? he)
  ·rename_i he
   refine ⟨?_,fun x=>by rw [List.mem_append,List.mem_append,g2],by simp⟩
   refine List.pairwise_append.2 ⟨g1,List.pairwise_singleton _ _,fun x hx y hy=>?_⟩
   rw [List.mem_singleton] at hy
   subst hy
   have hx2:=h2 x ((g2 x).1 hx) y (by simp)
   cases h3:x.lt y with
   | true=>rfl
   | false =>
    exfalso
    have e:=Place.lt_tri h3 hx2
    subst e
    cases hl:(dd t.reverse).getLast? with
    | none=>rw [List.getLast?_eq_none_iff] at hl;rw [hl] at hx;simp at hx
    | some e =>
     have hne:e≠x:=fun h=>he (by rw [hl,h])
     have hem:=List.mem_of_getLast? hl
     have h4:=h2 e ((g2 e).1 hem) x (by simp)
     obtain ⟨i,hi,rfl⟩:=List.getElem_of_mem hx
     rw [List.getLast?_eq_getElem?] at hl
     have hle:=(Qzs.1 hl)
     obtain ⟨hj,rfl⟩:=hle
     have hij:i<(dd t.reverse).length - 1:=by
      rcases Qzn i ((dd t.reverse).length - 1) with h | h
      ·exact h
      ·exact absurd (by congr 1;omega) hne
     have:=List.pairwise_iff_getElem.1 g1 i _ hi hj hij
     rw [h4] at this
     cases this
theorem dd_places {l l':List Place} (hp:l'.Perm l) (h:l'.Pairwise fun p q=>q.lt p=false):dd l'=placesOf l:=by
 obtain ⟨h1,h2,_⟩:=Wdw l' h
 exact Ubf h1 (Yaj l) fun q=>by rw [h2,Zx];exact hp.mem_iff
theorem Zdc (base a b:List Rec) (s1 s2:List Bool) (x y:Jn) (p:Place) (h:x.conf=y.conf):(Uk base a b s1 x p).conf=(Uk base a b s2 y p).conf:=by
 unfold Uk
 simp only
 split
 ·exact h
 ·split
  ·exact h
  ·simp only [h]
theorem join_conf (base a b:List Rec) (s1 s2:List Bool):(join base a b s1).conf=(join base a b s2).conf:=by
 unfold join
 suffices hh:∀ (l:List Place) (x y:Jn),x.conf=y.conf→(l.foldl (Uk base a b s1) x).conf=(l.foldl (Uk base a b s2) y).conf from hh _ _ _ rfl
 intro l
 induction l with
 | nil=>intro x y h;exact h
 | cons p t ih=>intro x y h;exact ih _ _ (Zdc base a b s1 s2 x y p h)
theorem Vdw (base a b:List Rec) (s:List Bool) (x:Jn) (p:Place):(Uk base a b s x p).out.length≤x.out.length+1∧(Uk base a b s x p).conf.length≤x.conf.length+1:=by
 unfold Uk
 simp only
 have hput:∀ w:St,(match w with | some ws=>x.out++[(⟨p.kind,p.number,ws⟩:Rec)] | none=>x.out).length≤x.out.length+1:=by
  intro w
  cases w<;>simp
 split
 ·exact ⟨hput _,by simp⟩
 ·split
  ·exact ⟨hput _,by simp⟩
  ·exact ⟨hput _,by simp⟩
end Oyez
namespace Ab
open Go Go.RowKit Go.Proofs
variable {P:Program}
structure All (C:Ctx):Prop where
 inv:Inv C []
 blk:C.blk=[]
 pers:∀ b,b<C.w.heap.size→C.pers b
theorem APure.callsC {f:FuncId} {args:List AV} {v:AV} (hen:Enters P f) (h:APure P f args v) {C:Ctx} (hC:All C) {cargs:List Value} (hv:VRs C args cargs) :
  Calls P f cargs.toArray C.w fun e w'=>(∃ c C',e=.returned c∧VR C' v c)∧Below C.w.heap.size C.w w':=by
 rcases h [] with h | h
 ·refine (callsIn_wide.1 (h.2 C cargs hC.inv hv)).mono ?_
  rintro e w' ⟨c,C',av,σ',rfl,rfl,hE,hI',hv',rfl,rfl⟩
  refine ⟨⟨c,C',rfl,hv'⟩,?_⟩
  have hb:=hC.inv.base
  have hb':=hI'.base
  rw [hE.w0] at hb'
  exact ⟨hb'.os.trans hb.os.symm,hb'.tape.trans hb.tape.symm,hb'.output.trans hb.output.symm,hE.size,fun k hk=>hE.keep k (hC.pers k hk)⟩
 ·obtain ⟨c,C',av,σ',hr,_⟩:=h C cargs hC.inv hv
  rw [hen] at hr
  cases hr
def Ctx.to (C:Ctx) (w:World):Ctx:={ C with pers:=fun b=>b<w.heap.size,w }
theorem All.to {C:Ctx} (hC:All C) {w:World} (hb:Below C.w.heap.size C.w w):All (C.to w)∧Ext C (C.to w):=by
 have hE:=Ext.below hC.inv.plt hb (fun h=>False.elim h)
 have hE2:Ext (C.at_ w) (C.to w):=⟨rfl,⟨[],by simp [Ctx.at_,Ctx.to]⟩,fun b h=>Nat.lt_of_lt_of_le (hC.inv.plt b h) hb.size,fun _ _=>rfl,fun _ _ h=>h,Nat.le_refl _,fun _=>Nat.le_refl _⟩
 refine ⟨⟨⟨by simpa [Ctx.to] using hC.inv.len,hC.inv.glob,hC.inv.base.trans (hb.mono hC.inv.base.size),fun b h=>Nat.lt_of_lt_of_le (hC.inv.plt b (hC.inv.basep b h)) hb.size,fun b h=>h,fun r b o _ h=>by simp at h,fun r r' b o o' _ _ h=>by simp at h⟩,hC.blk,fun b h=>h⟩,hE.trans hE2⟩
theorem APure.kitA {f:FuncId} {args:List AV} {v:AV} (hen:Enters P f) (hfz:∀ (σ:Za) (x:AV),x∈args→Fz 0 σ x x)
  (h:∀ (C:Ctx),All C→∀ (cargs:List Value),VRs C args cargs→Calls P f cargs.toArray C.w fun e w'=>(∃ c,e=.returned c∧∀ C',VR C' v c)∧Below C.w.heap.size C.w w'):APure P f args v:=by
 intro σ
 refine .inl ⟨hen,fun C cargs hI hv=>callsIn_wide.2 ?_⟩
 have hI0:=hI.base0
 have hA:All ⟨C.w0,[],fun b=>b<C.w.heap.size,C.w⟩:=⟨⟨rfl,hI.glob,hI.base,fun b hb=>Nat.lt_of_lt_of_le hb hI.base.size,fun b hb=>hb,fun r b o h=>by simp at h,fun r r' b o o' h=>by simp at h⟩,rfl,fun b hb=>hb⟩
 have hE:Ext (C.frz 0 σ) ⟨C.w0,[],fun b=>b<C.w.heap.size,C.w⟩:=⟨rfl,⟨[],by simp [Ctx.frz]⟩,fun b hb=>hI0.plt b hb,fun _ _=>rfl,fun _ _ h=>h,Nat.le_refl _,fun _=>Nat.le_refl _⟩
 have hv1:VRs ⟨C.w0,[],fun b=>b<C.w.heap.size,C.w⟩ args cargs:=⟨hv.len,fun i x c hx hc=>((hv.at_ i x c hx hc).frz hI (hfz σ x (Qzg hx))).ext hE⟩
 refine (h _ hA cargs hv1).mono ?_
 rintro e w' ⟨⟨c,rfl,hc⟩,hb⟩
 have hE2:=Ext.below hI.plt hb (fun h=>False.elim h)
 exact ⟨c,C.at_ w',v,σ,rfl,rfl,hE2,hI.below hb,hc _,rfl,rfl⟩
end Ab
namespace Ab
open Go Go.RowKit Go.Proofs
theorem Wn {p:Prop} (h:p):Hid p:=h
theorem Zbz:Enters Tryz.prog 51:=Wa Tryz.func51 (by decide) rfl
theorem Xd2:Enters Tryz.prog 120:=Wa Tryz.func120 (by decide) rfl
theorem Ybf:Enters Tryz.prog 46:=Wa Tryz.func46 (by decide) rfl
theorem Wcn {T e:TypeId} {B b:Nat} {p:Value} {bs:List Value} {w w':World} (h:Lib.BuilderAt T e B b p bs w) (hb:Below w.heap.size w w'):Lib.BuilderAt T e B b p bs w':=by
 obtain ⟨h1,v,h2,h3,h4⟩:=h
 have keep:∀ (g:Nat) (x:Obj),w.heap[g]? = some x→w'.heap[g]? = some x:=fun g x hg=>(hb.block g (Array.getElem?_eq_some_iff.1 hg).1).trans hg
 refine ⟨h1,v,keep _ _ h2,⟨h3.1,?_⟩,h4⟩
 rcases h3.2 with h | ⟨g,cap,cur,hv,hB,hg,r⟩
 ·exact .inl h
 ·exact .inr ⟨g,cap,cur,hv,hB,keep _ _ hg,r⟩
theorem Ve4 {T e:TypeId} {B b:Nat} {bs:List Value} {w w':World} (h:Lib.IsBuilder T e B b bs w) (hb:Below w.heap.size w w'):Lib.IsBuilder T e B b bs w':=h.imp (Wcn · hb) (Wcn · hb)
theorem Xet (f:List Oyez.Rec) (k:Nat) (h:k<f.length):Oyez.print (f.take (k+1))=Oyez.print (f.take k)++(Oyez.line f[k].kind f[k].number f[k].words++[10]):=by
 have e:f.take (k+1)=f.take k++[f[k]]:=by rw [List.take_add_one,Qze h];rfl
 rw [e]
 simp only [Oyez.print,List.flatMap_append,List.flatMap_cons,List.flatMap_nil,List.append_nil]
theorem Yei (f:List Oyez.Rec) (k:Nat):(Oyez.print (f.take k)).length≤(Oyez.print f).length:=by
 conv=>rhs;rw [← List.take_append_drop k f]
 simp only [Oyez.print,List.flatMap_append,List.length_append]
 omega
set_option maxHeartbeats 4000000 in
set_option maxRecDepth 100000 in
theorem Xc9 (f:List Oyez.Rec) (hf:Few f) (h0:Oyez.check f=0) (C:Ctx) (hC:All C) (cap b o:Nat) (hrow:Row C 3 b o (f.map Yd)) (hcap:f.length≤cap) (hlen:(Oyez.print f).length≤2^40)
  (hck:Calls Tryz.prog 51 #[.slice (some ⟨b,o,none⟩) f.length cap] C.w fun e w'=>e=.returned (.int .i64 0)∧Below C.w.heap.size C.w w') :
  Calls Tryz.prog 46 #[.slice (some ⟨b,o,none⟩) f.length cap] C.w fun e w'=>e=.returned (.tuple #[.string ⟨(Oyez.print f).toArray⟩,.int .i64 0])∧Below C.w.heap.size C.w w':=by
 have hright:=Oyez.check_zero h0
 have h40:f.length≤40:=hright.len
 have Hline:Hid (∀ (r:Oyez.Rec) (v:Value) (W:World),r∈f→Below C.w.heap.size C.w W→VR C (Zb r.words) v→Calls Tryz.prog 120 #[.agg #[.int .i64 r.kind,.int .i64 r.number,v]] W fun e w'=>e=.returned (.string ⟨⟨Oyez.line r.kind r.number r.words⟩⟩)∧Below W.heap.size W w'):=by
  intro r v W hr hW hv
  obtain ⟨hA,hE⟩:=hC.to hW
  obtain ⟨p1,p2,p3,p4⟩:=Ubc (Oyez.recErr_place (hright.recs r hr)).1
  obtain ⟨q1,q2⟩:=hf r hr
  have hvr:VRs (C.to W) [Yd r] [.agg #[.int .i64 r.kind,.int .i64 r.number,v]]:=.cons (.agg _ [.int .i64 r.kind,.int .i64 r.number,v] rfl (VRs.cons (.int _ _) (.cons (.int _ _) (.cons (hv.ext hE) (.nil _)))).at_) (.nil _)
  refine ((Ybx r p1 p2 p3 (by omega) q1 q2).callsC Xd2 hA hvr).mono ?_
  rintro e w' ⟨⟨c,C',rfl,hc⟩,hb⟩
  rw [hc.str_inv]
  exact ⟨rfl,hb⟩
 clear hright
 go_enter Tryz.func46,Tryz.ntmps46
 go_wp2_with fail
 refine hck.mono ?_
 rintro e w1 ⟨rfl,hb1⟩
 have Hb1:=Wn hb1
 clear hb1 hck
 go_wp2
 go_loopw [15] (fun i wr=>∃ k:Nat,k≤f.length∧i=.int .i64 k∧Hid (Lib.IsBuilder 179 5 w1.heap.size w1.heap.size (Lib.byteCells (Oyez.print (f.take k))) wr)∧Hid (Below C.w.heap.size C.w wr)∧Hid (w1.heap.size≤wr.heap.size)) (fun i _=>f.length - (intOf i).toNat)
 case atStart =>
  refine ⟨0,Nat.zero_le _,rfl,Wn (Lib.fresh_isBuilder 179 5 w1),Wn (Hb1.out.trans (((Below.refl _ _).alloc (Nat.le_refl _) _).mono Hb1.out.size)),Wn (by simp)⟩
 case round =>
  obtain ⟨k,hk,rfl,HB,HW,HS⟩:=hrel
  by_cases hlt:k<f.length
  ·obtain ⟨hl3,hcells⟩:=hrow.2 k (Yd f[k]) (by simp [hlt])
   obtain ⟨_,v0,hc0,hv0⟩:=hcells 0 (.int .i64 f[k].kind) rfl
   obtain ⟨_,v1,hc1,hv1⟩:=hcells 1 (.int .i64 f[k].number) rfl
   obtain ⟨_,v2,hc2,hv2⟩:=hcells 2 (Zb f[k].words) rfl
   have hbk:b<C.w.heap.size:=hC.inv.plt b hrow.1
   obtain rfl:=hv0.int_inv
   obtain rfl:=hv1.int_inv
   have c0:wr.cell? ⟨b,o+k*3,none⟩=some (.int .i64 f[k].kind):=by rw [HW.out.cell (p:=⟨b,o+k*3,none⟩) hbk];exact hc0
   have c1:wr.cell? ⟨b,o+k*3+1,none⟩=some (.int .i64 f[k].number):=by rw [HW.out.cell (p:=⟨b,o+k*3+1,none⟩) hbk];exact hc1
   have c2:wr.cell? ⟨b,o+k*3+2,none⟩=some v2:=by rw [HW.out.cell (p:=⟨b,o+k*3+2,none⟩) hbk];exact hc2
   clear hc0 hc1 hc2 hcells
   obtain ⟨A2,cap2,e2,_,_⟩:=hv2.pl_inv
   have Hv2:=Wn (e2▸hv2:VR C (Zb f[k].words) (.slice A2 (strs f[k].words).length cap2))
   subst e2
   clear hv2
   go_wp2_with fail
   have hwa:Below wr.heap.size wr (wr.alloc (.cells #[.int .i64 f[k].kind,.int .i64 f[k].number,.slice A2 f[k].words.length cap2] 59)):=(Below.refl _ _).alloc (Nat.le_refl _) _
   have hcw:C.w.heap.size≤wr.heap.size:=HW.out.size
   have Hv3:VR C (Zb f[k].words) (.slice A2 f[k].words.length cap2):=by have:=Hv2.out;rwa [Zcr] at this
   refine (Hline.out f[k] _ _ (List.getElem_mem hlt) (HW.out.trans (hwa.mono hcw)) Hv3).mono ?_
   rintro e w3 ⟨rfl,hb3⟩
   have hBw:Below wr.heap.size wr w3:=hwa.trans (hb3.mono hwa.size)
   have HB3:=Wn (Ve4 HB.out hBw)
   have HW3:=Wn (HW.out.trans (hBw.mono hcw))
   have HS3:=Wn (Nat.le_trans HS.out hBw.size)
   have hpl:=Xet f k hlt
   have hple:=Yei f (k+1)
   rw [hpl] at hple
   simp only [List.length_append,List.length_cons,List.length_nil] at hple
   have Hpl:=Wn hpl
   have Hlen:=Wn (Nat.le_trans hple hlen)
   have hadd:¬ 9223372036854775807<(Oyez.line f[k].kind f[k].number f[k].words).length+1:=by omega
   clear hwa hcw Hv3 Hv2 hb3 hBw hpl hple HB HW HS c0 c1 c2
   go_wp2_with fail
   refine (Any.Builder_WriteString { Tryz.lays156 with } Tryz.Builder_Extra_156 w1.heap.size w1.heap.size _ _ w3 HB3.out ?_ HS3.out).mono ?_
   ·have:=Hlen.out
    rw [Lib.byteCells_length]
    show _+(Oyez.line f[k].kind f[k].number f[k].words++[10]).length≤_
    rw [List.length_append,List.length_singleton]
    omega
   rintro e w4 ⟨rfl,h4,hb4⟩
   have hcat:Lib.byteCells (Oyez.print (f.take k))++Lib.strCells ((⟨⟨Oyez.line f[k].kind f[k].number f[k].words⟩⟩:ByteArray)++⟨#[10]⟩)=Lib.byteCells (Oyez.print (f.take (k+1))):=by
    rw [Hpl.out,Lib.byteCells_append,Lib.strCells_eq]
    rfl
   rw [hcat] at h4
   have H4:=Wn (Or.inr h4:Lib.IsBuilder 179 5 w1.heap.size w1.heap.size (Lib.byteCells (Oyez.print (f.take (k+1)))) w4)
   have Hw4:=Wn (HW3.out.trans (hb4.mono Hb1.out.size))
   have Hs4:=Wn (Nat.le_trans HS3.out hb4.size)
   clear h4 hb4 hcat HB3 HW3 HS3
   go_wp2
   exact ⟨⟨k+1,by omega,by go_num,H4,Hw4,Hs4⟩,by simp [intOf];omega⟩
  ·have hke:k=f.length:=by omega
   subst hke
   have hB:=HB.out
   rw [List.take_length] at hB
   go_wp2_with fail
   refine (Any.Builder_String_any Tryz.lays169 Tryz.Builder_Extra_169 w1.heap.size w1.heap.size _ wr hB HS.out).mono ?_
   rintro e w5 ⟨rfl,hb5⟩
   have Hb5:=Wn (HW.out.trans (hb5.mono Hb1.out.size))
   clear hb5 hB
   go_wp2
   go_ret2
   exact ⟨rfl,Hb5.out⟩
set_option maxHeartbeats 4000000 in
set_option maxRecDepth 100000 in
theorem Zcz (W:World) (A:Option Addr) (cap:Nat)
  (hck:Calls Tryz.prog 51 #[.slice A 0 cap] W fun e w'=>e=.returned (.int .i64 0)∧Below W.heap.size W w') :
  Calls Tryz.prog 46 #[.slice A 0 cap] W fun e w'=>e=.returned (.tuple #[.string ⟨#[]⟩,.int .i64 0])∧Below W.heap.size W w':=by
 go_enter Tryz.func46,Tryz.ntmps46
 go_wp2_with fail
 refine hck.mono ?_
 rintro e w1 ⟨rfl,hb1⟩
 have Hb1:=Wn hb1
 clear hb1 hck
 go_wp2
 go_loopw [15] (fun i wr=>i=.int .i64 0∧Hid (Lib.IsBuilder 179 5 w1.heap.size w1.heap.size (Lib.byteCells []) wr)∧Hid (Below W.heap.size W wr)∧Hid (w1.heap.size≤wr.heap.size)) (fun i _=>0)
 case atStart =>
  refine ⟨rfl,Wn (Lib.fresh_isBuilder 179 5 w1),Wn (Hb1.out.trans (((Below.refl _ _).alloc (Nat.le_refl _) _).mono Hb1.out.size)),Wn (by simp)⟩
 case round =>
  obtain ⟨rfl,HB,HW,HS⟩:=hrel
  have hB:=HB.out
  go_wp2_with fail
  refine (Any.Builder_String_any Tryz.lays169 Tryz.Builder_Extra_169 w1.heap.size w1.heap.size _ wr hB HS.out).mono ?_
  rintro e w5 ⟨rfl,hb5⟩
  have Hb5:=Wn (HW.out.trans (hb5.mono Hb1.out.size))
  clear hb5 hB
  go_wp2
  go_ret2
  exact ⟨rfl,Hb5.out⟩
end Ab
namespace Ab
open Go Go.RowKit Go.Proofs
attribute [local irreducible] aws awp aw1 Og Om Oc Oa Ogd Ov Ot awd Ub awh Xc Ogh Ohd awl Ogl Ohl Zc Wc QFn Zd QRo QBe ACode AYield
theorem Zee {f:List Oyez.Rec} (h:∀ r∈f,Oyez.recErr r=0):(Oyez.print f).length≤65*f.length:=by
 induction f with
 | nil=>simp [Oyez.print]
 | cons r f ih =>
  have h1:=(Oyez.recErr_place (h r (by simp))).2
  have h2:=ih fun x hx=>h x (by simp [hx])
  have h3:(Oyez.line r.kind r.number r.words).length≤64:=by
   unfold Oyez.wordsErr at h1
   split at h1
   ·cases h1
   ·split at h1
    ·cases h1
    ·split at h1
     ·cases h1
     ·omega
  simp only [Oyez.print,List.flatMap_cons,List.length_append,List.length_cons,List.length_nil] at h2 ⊢
  omega
theorem Xav (n:Nat) (σ:Za) (ws:List (List UInt8)):Fz n σ (Zb ws) (Zb ws):=.pl 1 _ fun i x hx j y hy=>by
 obtain ⟨w,_,rfl⟩:∃ w,w∈ws∧AV.str w=x:=by simpa [strs] using Qzg hx
 cases j with
 | zero=>simp [AV.cells] at hy;subst hy;exact .str w
 | succ j=>simp [AV.cells] at hy
theorem Vag (n:Nat) (σ:Za) (f:List Oyez.Rec):Fz n σ (Xa f) (Xa f):=.pl 3 _ fun i x hx j y hy=>by
 obtain ⟨r,_,rfl⟩:∃ r,r∈f∧Yd r=x:=by simpa using Qzg hx
 match j,hy with
 | 0,hy=>simp [AV.cells,Yd] at hy;subst hy;exact .int _ _
 | 1,hy=>simp [AV.cells,Yd] at hy;subst hy;exact .int _ _
 | 2,hy=>simp [AV.cells,Yd] at hy;subst hy;exact Xav n σ r.words
 | j+3,hy=>simp [AV.cells,Yd] at hy
def Yz (f:List Oyez.Rec):List UInt8 × Int:=if Oyez.check f=0 then (Oyez.print f,0) else ([],Oyez.check f)
theorem Zcp (f:List Oyez.Rec) (hf:Few f):APure Tryz.prog 46 [Xa f] (.tup [.str (Yz f).1,.int .i64 (Yz f).2]):=by
 by_cases h0:Oyez.check f=0
 ·have hright:=Oyez.check_zero h0
  have hlen:(Oyez.print f).length≤2^40:=by
   have:=Zee hright.recs
   have:=hright.len
   omega
  unfold Yz
  rw [if_pos h0]
  by_cases hn:f=[]
  ·subst hn
   refine APure.kitA Ybf (fun σ x hx=>?_) fun C hC cargs hv=>?_
   ·simp only [List.mem_singleton] at hx
    subst hx
    exact Vag 0 σ []
   ·obtain ⟨c,cs,rfl,h1,h2⟩:=hv.inv
    obtain rfl:=h2.of_nil
    have hck:=(Vy [] hf).callsC Zbz hC hv
    obtain ⟨A,cap,rfl,hcap,hrow⟩:=h1.pl_inv
    refine (Zcz C.w A cap (hck.mono ?_)).mono ?_
    ·rintro e w' ⟨⟨c,C',rfl,hc⟩,hb⟩
     rw [hc.int_inv,h0]
     exact ⟨rfl,hb⟩
    ·rintro e w' ⟨rfl,hb⟩
     exact ⟨⟨_,rfl,fun C'=>.tup _ [.string ⟨⟨[]⟩⟩,.int .i64 0] rfl (VRs.cons (.str _) (.cons (.int _ _) (.nil _))).at_⟩,hb⟩
  ·refine APure.kitA Ybf (fun σ x hx=>?_) fun C hC cargs hv=>?_
   ·simp only [List.mem_singleton] at hx
    subst hx
    exact Vag 0 σ f
   ·obtain ⟨c,cs,rfl,h1,h2⟩:=hv.inv
    obtain rfl:=h2.of_nil
    have hck:=(Vy f hf).callsC Zbz hC hv
    obtain ⟨A,cap,rfl,hcap,hrow⟩:=h1.pl_inv
    rw [List.length_map] at hcap hck
    rcases hrow with hrow | ⟨b,o,rfl,hrow⟩
    ·simp at hrow;exact absurd hrow hn
    ·have hck2:Calls Tryz.prog 51 #[.slice (some ⟨b,o,none⟩) f.length cap] C.w fun e w'=>e=.returned (.int .i64 0)∧Below C.w.heap.size C.w w':=by
      refine hck.mono ?_
      rintro e w' ⟨⟨c,C',rfl,hc⟩,hb⟩
      rw [hc.int_inv,h0]
      exact ⟨rfl,hb⟩
     have:=Xc9 f hf h0 C hC cap b o hrow hcap hlen hck2
     rw [List.length_map]
     refine this.mono ?_
     rintro e w' ⟨rfl,hb⟩
     exact ⟨⟨_,rfl,fun C'=>.tup _ [.string ⟨⟨Oyez.print f⟩⟩,.int .i64 0] rfl (VRs.cons (.str _) (.cons (.int _ _) (.nil _))).at_⟩,hb⟩
 ·unfold Yz
  rw [if_neg h0]
  intro σ
  refine Ua Tryz.func46 rfl Ybf ?_
  simp [Tryz.ntmps46]
  refine (Vy f hf).use ?_
  simp [h0]
end Ab

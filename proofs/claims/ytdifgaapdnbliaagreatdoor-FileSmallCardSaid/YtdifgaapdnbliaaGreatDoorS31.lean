/-
  Texts packed for a claim.
-/
import Derived.Test.YtdifgaapdnbliaaGreatDoorS00
import Derived.Test.YtdifgaapdnbliaaGreatDoorS15
import Derived.Test.YtdifgaapdnbliaaGreatDoorS16
import Derived.Test.YtdifgaapdnbliaaGreatDoorS21
import Derived.Test.YtdifgaapdnbliaaGreatDoorS17
import Derived.Test.YtdifgaapdnbliaaGreatDoorS26
import Derived.Test.YtdifgaapdnbliaaGreatDoorS28
import Derived.Test.YtdifgaapdnbliaaGreatDoorS22
import Derived.Test.YtdifgaapdnbliaaGreatDoorS29
import Derived.Test.YtdifgaapdnbliaaGreatDoorS30
import Derived.Test.YtdifgaapdnbliaaGreatDoorS23
set_option linter.all false
namespace Oyez
structure RightC (l:List Chg):Prop where
 len:l.length≤80
 each:∀ c∈l,chgErr c=0
 sorted:Sorted (l.map Chg.place)
theorem Yeu {p:Option Place} {l:List Chg} (h:checkChgFrom p l=0):(∀ c∈l,chgErr c=0)∧Sorted (l.map Chg.place)∧∀ q,p=some q→∀ c∈l,q.lt c.place=true:=by
 induction l generalizing p with
 | nil=>simp [Sorted]
 | cons r t ih =>
  simp only [checkChgFrom] at h
  split at h
  ·rename_i h1;exact absurd h h1
  ·rename_i h1
   split at h
   ·cases h
   ·rename_i h2
    obtain ⟨g1,g2,g3⟩:=ih h
    have hp:∀ q,p=some q→q.lt r.place=true:=fun q hq=>by rw [hq] at h2;simpa using h2
    refine ⟨?_,?_,fun q hq x hx=>?_⟩
    ·intro x hx
     rcases List.mem_cons.1 hx with rfl | hx
     ·simpa using h1
     ·exact g1 x hx
    ·refine List.pairwise_cons.2 ⟨fun y hy=>?_,g2⟩
     obtain ⟨x,hx,rfl⟩:=List.mem_map.1 hy
     exact g3 _ rfl x hx
    ·rcases List.mem_cons.1 hx with rfl | hx
     ·exact hp q hq
     ·exact Place.lt_trans (hp q hq) (g3 _ rfl x hx)
theorem checkChg_zero {l:List Chg} (h:checkChg l=0):RightC l:=by
 unfold checkChg at h
 split at h
 ·cases h
 ·obtain ⟨h1,h2,_⟩:=Yeu h
  exact ⟨by omega,h1,h2⟩
theorem chgErr_zero {c:Chg} (h:chgErr c=0):c.place∈allPlaces∧wordsErr c.kind c.number c.old=0∧wordsErr c.kind c.number c.new=0∧(c.had=false→c.old=[])∧(c.has=false→c.new=[])∧c.was≠c.now:=by
 unfold chgErr at h
 split at h
 ·rename_i h1;exact absurd h h1
 ·rename_i h1
  split at h
  ·rename_i h2;exact absurd h h2
  ·rename_i h2
   split at h
   ·rename_i h3;exact absurd h h3
   ·rename_i h3
    split at h
    ·cases h
    ·rename_i h4
     simp only [Bool.or_eq_true,Bool.and_eq_true,not_or,not_and,beq_iff_eq,decide_eq_true_eq,Bool.not_eq_true',List.isEmpty_iff,Bool.not_eq_true,Bool.not_eq_false'] at h4
     obtain ⟨⟨h5,h6⟩,h7⟩:=h4
     have h5':c.had=false→c.old=[]:=fun e=>by simpa using h5 e
     have h6':c.has=false→c.new=[]:=fun e=>by simpa using h6 e
     refine ⟨Xb9 (by simpa using h1),by simpa using h2,by simpa using h3,h5',h6',?_⟩
     unfold Chg.was Chg.now
     cases h8:c.had<;>cases h9:c.has
     ·exact absurd (by rw [h5' h8,h6' h9]) (h7 (by rw [h8,h9]))
     ·simp
     ·simp
     ·simpa using h7 (by rw [h8,h9])
theorem RightC.range {l:List Chg} (h:RightC l):∀ c∈l,c.place∈allPlaces:=fun c hc=>(chgErr_zero (h.each c hc)).1
theorem chg_self {c:Chg} (h:chgErr c=0):chg c.place c.was c.now=c:=by
 obtain ⟨_,_,_,h1,h2,_⟩:=chgErr_zero h
 obtain ⟨k,n,a,b,o,w⟩:=c
 simp only at h1 h2
 unfold chg Chg.was Chg.now Chg.place
 cases a<;>cases b<;>simp_all
def stL (l:List Chg) (p:Place) (s:St):St:=l.foldl (fun s c=>if c.place=p then c.now else s) s
theorem Zd9 (f:List Rec) (c:Chg) (p:Place):getIn (make1 f c) p=if c.place=p then c.now else getIn f p:=by
 unfold make1 Chg.now
 cases h:c.has with
 | true =>
  simp only [if_true]
  rw [Vcq,show (⟨c.kind,c.number,c.new⟩:Rec).place=c.place from rfl]
  by_cases e:c.place=p
  ·rw [if_pos e,if_pos e.symm]
  ·rw [if_neg e,if_neg (fun h=>e h.symm)]
 | false =>
  simp only [Bool.false_eq_true,if_false]
  rw [Vco]
  by_cases e:c.place=p
  ·rw [if_pos e,if_pos e.symm]
  ·rw [if_neg e,if_neg (fun h=>e h.symm)]
theorem Wer (l:List Chg):∀ (f:List Rec) (p:Place),getIn (make f l) p=stL l p (getIn f p):=by
 induction l with
 | nil=>intro f p;rfl
 | cons c t ih =>
  intro f p
  show getIn (make (make1 f c) t) p=stL t p _
  rw [ih,Zd9]
theorem Xd9 {f:List Rec} (h:RSorted f) (c:Chg):RSorted (make1 f c):=by
 unfold make1
 split
 ·exact Uci h _
 ·exact drop_sorted h _
theorem Wcu (l:List Chg):∀ {f:List Rec},RSorted f→RSorted (make f l):=by
 induction l with
 | nil=>intro f h;exact h
 | cons c t ih=>intro f h;exact ih (Xd9 h c)
theorem Wd3 (l:List Chg):∀ {f:List Rec},InRange f→(∀ c∈l,c.place∈allPlaces)→InRange (make f l):=by
 induction l with
 | nil=>intro f h _;exact h
 | cons c t ih =>
  intro f h hl
  refine ih (f:=make1 f c) (fun r hr=>?_) fun x hx=>hl x (by simp [hx])
  unfold make1 at hr
  split at hr
  ·rcases mem_put hr with rfl | hr
   ·exact hl c (by simp)
   ·exact h r hr
  ·exact h r (mem_drop.1 hr).1
theorem make_eq {f:List Rec} (hs:RSorted f) (hr:InRange f) {l:List Chg} (hl:∀ c∈l,c.place∈allPlaces):allPlaces.filterMap (recAt fun p=>stL l p (getIn f p))=make f l:=by
 rw [← Zdn (Wcu l hs) Xa9 (Wd3 l hr hl)]
 congr 1
 funext p
 simp [recAt,Wer]
theorem findC_none {l:List Chg} {p:Place} (h:p∉l.map Chg.place):findC l p=none:=by
 unfold findC
 rw [List.find?_eq_none]
 intro c hc e
 simp only [decide_eq_true_eq] at e
 exact h (e▸List.mem_map_of_mem hc)
theorem Wej (x y:List Chg) (q:Place→Bool):∀ (l:List Place),(∀ p∈l,q p=false→afterAt x y p=.ok none)→afterL x y l=afterL x y (l.filter q):=by
 intro l
 induction l with
 | nil=>intro _;rfl
 | cons p t ih =>
  intro h
  have ht:=ih fun y hy=>h y (List.mem_cons_of_mem _ hy)
  rw [List.filter_cons]
  cases hp:q p with
  | true=>simp only [if_true,afterL,ht]
  | false=>simp only [Bool.false_eq_true,if_false,afterL,h p (by simp) hp,ht]
theorem after_eq {x y:List Chg} (hx:∀ c∈x,c.place∈allPlaces) (hy:∀ c∈y,c.place∈allPlaces):afterL x y allPlaces=after x y:=by
 have hsub:∀ p∈placesOf ((x++y).map Chg.place),p∈allPlaces:=fun p hp=>by
  rw [Zx] at hp
  obtain ⟨r,hr,rfl⟩:=List.mem_map.1 hp
  rcases List.mem_append.1 hr with h | h
  ·exact hx r h
  ·exact hy r h
 unfold after
 rw [Wej x y (fun p=>decide (p∈placesOf ((x++y).map Chg.place))) allPlaces,← Za5 (Yaj _) Xa9 hsub]
 intro p _ hp
 rw [decide_eq_false_iff_not,Zx,List.map_append,List.mem_append,not_or] at hp
 unfold afterAt
 rw [findC_none hp.1,findC_none hp.2]
end Oyez
namespace Oyez
def Wfl:St→S
 | none=>[]
 | some ws=>32::Ucu ws
def Xfc (x:St):Prop:=∀ ws,x=some ws→∀ w∈ws,word w=true
theorem getIn_mem {f:List Rec} {p:Place} {ws:List S} (h:getIn f p=some ws):∃ r∈f,r.place=p∧r.words=ws:=by
 unfold getIn at h
 rw [Qzm] at h
 obtain ⟨r,h1,rfl⟩:=h
 exact ⟨r,List.mem_of_find?_eq_some h1,by simpa using List.find?_some h1,rfl⟩
def We0 (x y z:St):Bool:=decide (¬ y=z∧¬ y=x∧¬ z=x)
def Ze1 (base a b:List Rec) (p:Place):Bool:=We0 (getIn base p) (getIn a p) (getIn b p)
def Xe6 (base a b:List Rec) (s:List Bool) (i:Nat) (p:Place):St :=
 if getIn a p=getIn b p∨getIn b p=getIn base p then getIn a p else if getIn a p=getIn base p then getIn b p else pickJ s i (getIn base p) (getIn a p) (getIn b p)
def Zdu (base a b:List Rec):List Place:=placesOf ((base++a++b).map Rec.place)
def Zfi (base a b:List Rec):List Place:=(Zdu base a b).filter (Ze1 base a b)
theorem filterMap_snoc' {α β:Type} (f:α→Option β) (l:List α) (x:α):(l++[x]).filterMap f=l.filterMap f++(f x).toList:=by
 rw [List.filterMap_append,List.filterMap_cons]
 cases f x<;>simp
theorem Xdb {l:List Place} (h:Sorted l):l.Nodup:=List.Pairwise.imp (fun {a b} h e=>by rw [e,Place.lt_irrefl] at h;cases h) h
theorem Udj {l m:List Place} (h:l.Nodup) (hs:∀ p∈l,p∈m):l.length≤m.length:=by
 induction l generalizing m with
 | nil=>simp
 | cons x t ih =>
  rw [List.nodup_cons] at h
  have hx:=hs x (by simp)
  have h1:=ih (m:=m.erase x) h.2 fun p hp=>(List.mem_erase_of_ne (fun e:p=x=>h.1 (by rw [← e];exact hp))).2 (hs p (by simp [hp]))
  rw [List.length_erase_of_mem hx] at h1
  have:0<m.length:=List.length_pos_of_mem hx
  simp only [List.length_cons]
  omega
theorem Vcr {f g:List Rec} {p:Place} {c:Chg} (h:diffAt f g p=some c):c.place=p:=by
 unfold diffAt at h
 split at h
 ·cases h
 ·obtain rfl:=Option.some.inj h;rfl
def diffPl (f g:List Rec):List Place:=placesOf ((f++g).map Rec.place)
theorem diff_def (f g:List Rec):diff f g=(diffPl f g).filterMap (diffAt f g):=rfl
theorem Wey {f g:List Rec} {c:Chg} (h:c∈diff f g):∃ p,p∈diffPl f g∧getIn f p≠getIn g p∧c=chg p (getIn f p) (getIn g p):=by
 rw [diff_def,List.mem_filterMap] at h
 obtain ⟨p,hp,hc⟩:=h
 unfold diffAt at hc
 split at hc
 ·cases hc
 ·rename_i hne
  exact ⟨p,hp,hne,(Option.some.inj hc).symm⟩
theorem Wel (F:Place→Option Chg) (hF:∀ p c,F p=some c→c.place=p):∀ {ps:List Place},Sorted ps→Sorted ((ps.filterMap F).map Chg.place):=by
 intro ps hs
 have:(ps.filterMap F).map Chg.place=ps.filter fun p=>(F p).isSome:=by
  clear hs
  induction ps with
  | nil=>rfl
  | cons p t ih =>
   rw [List.filterMap_cons,List.filter_cons]
   cases hc:F p with
   | none=>simp [ih]
   | some c=>simp [ih,hF p c hc]
 rw [this]
 exact hs.filter _
theorem Wet (f g:List Rec):Sorted ((diff f g).map Chg.place):=Wel _ (fun p c h=>Vcr h) (Yaj _)
theorem Yep {p:Place} (hp:p∈allPlaces):wordsErr p.kind p.number []=0:=by
 rw [Ubm] at hp
 have h:recErr ⟨p.kind,p.number,[]⟩=0∨True:=.inr trivial
 unfold wordsErr
 rw [if_neg (by simp),if_neg (by simp),if_neg]
 have h1:(name p.kind).length≤6:=by
  have:p.kind=0∨p.kind=1∨p.kind=2∨p.kind=3∨p.kind=4:=by omega
  rcases this with h | h | h | h | h<;>rw [h]<;>decide
 have h2:(digits p.number).length≤3:=Xb4 2 p.number.toNat (by omega)
 unfold line
 simp only [List.length_append,List.length_cons,List.length_nil,List.flatMap_nil]
 omega
theorem Ycy {f g:List Rec} (hf:∀ r∈f,recErr r=0) (hg:∀ r∈g,recErr r=0) {p:Place} (hp:p∈allPlaces) (hne:getIn f p≠getIn g p):chgErr (chg p (getIn f p) (getIn g p))=0:=by
 have key:∀ f:List Rec,(∀ r∈f,recErr r=0)→wordsErr p.kind p.number ((getIn f p).getD [])=0:=by
  intro f hf
  cases hg:getIn f p with
  | none=>exact Yep hp
  | some ws =>
   obtain ⟨r,hr,h1,h2⟩:=getIn_mem hg
   have:=((recErr_iff r).1 (hf r hr)).2
   rw [h2] at this
   have h3:r.kind=p.kind:=congrArg Place.kind h1
   have h4:r.number=p.number:=congrArg Place.number h1
   rw [h3,h4] at this
   exact this
 have hpe:placeErr p.kind p.number=0:=by
  rw [Ubm] at hp
  unfold placeErr
  rw [if_neg (by omega),if_neg (by omega)]
 have k1:=key f hf
 have k2:=key g hg
 unfold chgErr
 have e1:(chg p (getIn f p) (getIn g p)).kind=p.kind:=rfl
 have e2:(chg p (getIn f p) (getIn g p)).number=p.number:=rfl
 have e3:(chg p (getIn f p) (getIn g p)).old=(getIn f p).getD []:=rfl
 have e4:(chg p (getIn f p) (getIn g p)).new=(getIn g p).getD []:=rfl
 have e5:(chg p (getIn f p) (getIn g p)).had=(getIn f p).isSome:=rfl
 have e6:(chg p (getIn f p) (getIn g p)).has=(getIn g p).isSome:=rfl
 rw [e1,e2,e3,e4,e5,e6,if_neg (by simpa using hpe),if_neg (by simpa using k1),if_neg (by simpa using k2),if_neg]
 intro h
 cases hx:getIn f p<;>cases hy:getIn g p<;>simp_all
theorem Zdl {f g:List Rec} (hf:InRange f) (hg:InRange g):∀ p∈diffPl f g,p∈allPlaces:=fun p hp=>by
 unfold diffPl at hp
 rw [Zx] at hp
 obtain ⟨r,hr,rfl⟩:=List.mem_map.1 hp
 rcases List.mem_append.1 hr with h | h
 ·exact hf r h
 ·exact hg r h
theorem Ued {f g:List Rec} {m:List Place} (h:∀ p,p∈f.map Rec.place∨p∈g.map Rec.place→p∈m):(diff f g).length≤m.length:=by
 have h1:(diffPl f g).length≤m.length:=Udj (Xdb (Yaj _)) fun p hp=>by
  unfold diffPl at hp
  rw [Zx,List.map_append,List.mem_append] at hp
  exact h p hp
 exact Nat.le_trans (List.length_filterMap_le _ _) h1
theorem diff_right {f g:List Rec} (hf:Right f) (hg:Right g):RightC (diff f g):=by
 refine ⟨?_,fun c hc=>?_,Wet f g⟩
 ·have:=Ued (f:=f) (g:=g) (m:=f.map Rec.place++g.map Rec.place) fun p hp=>List.mem_append.2 hp
  have h1:=hf.len
  have h2:=hg.len
  simp at this
  omega
 ·obtain ⟨p,hp,hne,rfl⟩:=Wey hc
  exact Ycy hf.recs hg.recs (Zdl hf.range hg.range p hp) hne
end Oyez
namespace Ab
open Go Go.RowKit Go.Proofs
attribute [local irreducible] aws awp aw1 Og Om Oc Oa Ogd Ov Ot awd Ub awh Xc Ogh Ohd awl Ogl Ohl awv Ogv Ohv Zc Wc QFn Zd QRo QBe ACode AYield
end Ab
namespace Ab
open Go Go.RowKit Go.Proofs
attribute [local irreducible] aws awp aw1 Og Om Oc Oa Ogd Ov Ot awd Ub awh Xc Ogh Ohd awl Ogl Ohl awv Ogv Ohv Zc Wc QFn Zd QRo QBe ACode AYield
end Ab
namespace Oyez
end Oyez
namespace Ab
open Go Go.RowKit Go.Proofs
attribute [local irreducible] aws awp aw1 Og Om Oc Oa Ogd Ov Ot awd Ub awh Xc Ogh Ohd awl Ogl Ohl awv Ogv Ohv Zc Wc QFn Zd QRo QBe ACode AYield
def Xe2 (l:List Oyez.Place):AV:=.pl 2 (l.map Xd)
attribute [simp] Xe2
def Ufj (l:List Oyez.Place) (p:Oyez.Place):Int:=if p∈l then (l.idxOf p:Nat) else -1
theorem Acc.fz0 {σ g X:Za} {k:Nat} {v:AV} {l:List AV} {o:Option Nat} (hk:0<k) (h:Acc σ g k v l o) (hf:∀ x∈l,∀ y∈x.cells,Fz 0 (σ++(g++X)) y y):Fz 0 (σ++(g++X)) v (.pl k l):=by
 have hv:=h.val
 cases o with
 | none=>obtain ⟨rfl,rfl⟩:=hv;exact .nils_pl k
 | some j =>
  obtain ⟨rfl,hg⟩:=hv
  have hget:=flat_get l (fun x hx=>(h.len x hx).1) hk
  refine .arr k _ 0 _ l (fun i j=>((l[i]?).bind fun x=>x.cells[j]?).getD .any) (Nat.zero_le _) (by
   rw [Zae,Qzl (Qzs.1 hg).1];exact hg) (fun i x hx=>⟨(h.len x (Qzg hx)).1,fun j y hy=>⟨(h.len x (Qzg hx)).2 y (Qzg hy),?_⟩⟩) (fun i x hx j y hy=>?_)
  ·have hc:=(h.len x (Qzg hx)).1
   have hj:=(Qzs.1 hy).1
   rw [hget,Nat.zero_add]
   have e1:(i*k+j) / k=i:=by rw [Nat.mul_comm,Nat.mul_add_div hk,Nat.div_eq_of_lt (by omega)];omega
   have e2:(i*k+j) % k=j:=by rw [Nat.mul_comm,Nat.mul_add_mod,Nat.mod_eq_of_lt (by omega)]
   rw [e1,e2,hx]
   simp [-AV.cells,hy]
  ·rw [hx]
   simp only [Option.bind_some,hy,Option.getD_some]
   exact hf x (Qzg hx) y (Qzg hy)
end Ab
namespace Ab
open Go Go.RowKit Go.Proofs
variable [Mode]
end Ab
namespace Ab
open Go Go.RowKit Go.Proofs
attribute [local irreducible] aws awp aw1 Og Om Oc Oa Ogd Ov Ot awd Ub awh Xc Ogh Ohd awl Ogl Ohl awv Ogv Ohv Zc Wc QFn Zd QRo QBe ACode AYield
theorem Vbb {n:Nat} {τ:Za} {q:Nat} (ws:List (List UInt8)) (hn:n≤q) (h:τ[q]? = some (.cells (strs ws))):Fz n τ (.arr 1 q 0 ws.length) (Zb ws):=by
 have hl:ws.length=(strs ws).length:=by simp [strs]
 rw [hl]
 refine Fz.arr 1 q 0 (strs ws) (strs ws) (fun i _=>(strs ws).getD i .any) hn h (fun i x hx=>?_) (fun i x hx j y hy=>?_)
 ·have hx':=hx
  simp only [strs,Qzp,Qzm] at hx
  obtain ⟨s,hs,rfl⟩:=hx
  refine ⟨rfl,fun j y hy=>?_⟩
  match j,hy with
  | 0,hy =>
   simp [AV.cells] at hy;subst hy
   refine ⟨rfl,?_⟩
   rw [Nat.zero_add,Nat.mul_one,Nat.add_zero,List.getD_eq_getElem?_getD,hx']
   rfl
  | j+1,hy=>simp [AV.cells] at hy
 ·have hx':=hx
  simp only [strs,Qzp,Qzm] at hx
  obtain ⟨s,hs,rfl⟩:=hx
  match j,hy with
  | 0,hy =>
   simp [AV.cells] at hy;subst hy
   rw [List.getD_eq_getElem?_getD,hx']
   exact .str _
  | j+1,hy=>simp [AV.cells] at hy
theorem OwnIn.fzN {n:Nat} {τ:Za} {lo:Nat} {f:List Oyez.Rec} {v:AV} (hn:n≤lo) (h:OwnIn Xm τ lo f v):Fz n τ v (Xa f):=by
 rcases h.row with ⟨rfl,rfl⟩ | ⟨h1,rfl,cs,h3,h4,h5⟩
 ·exact .nils_pl 3
 ·have hl:f.length=(f.map Yd).length:=by simp
  rw [hl]
  have hcell:∀ (i:Nat) (r:Oyez.Rec),f[i]? = some r→∃ w,(∀ j,j<3→cs[i*3+j]? = [AV.int .i64 r.kind,.int .i64 r.number,w][j]?)∧Fz n τ w (Zb r.words):=by
   intro i r hr
   obtain ⟨w,g1,g2⟩:=h5 i r hr
   refine ⟨w,fun j hj=>?_,?_⟩
   ·rw [← g1,List.getElem?_take_of_lt hj,List.getElem?_drop]
   ·rcases g2 with ⟨g2,rfl⟩ | ⟨q,xs,a1,a2,rfl,a4,a5⟩
    ·rw [g2];exact .pl0 1 1
    ·rw [show xs=strs r.words from a5] at a4
     exact Vbb _ (by omega) a4
  refine Fz.arr 3 lo 0 cs (f.map Yd) (fun i j=>(cs[i*3+j]?).getD .any) hn h3 (fun i x hx=>?_) (fun i x hx j y hy=>?_)
  ·rw [Qzp,Qzm] at hx
   obtain ⟨r,hr,rfl⟩:=hx
   obtain ⟨w,g1,g2⟩:=hcell i r hr
   refine ⟨rfl,fun j y hy=>?_⟩
   have hj:j<3:=(Qzs.1 hy).1
   refine ⟨?_,?_⟩
   ·match j,hj,hy with
    | 0,_,hy=>simp [AV.cells] at hy;subst hy;rfl
    | 1,_,hy=>simp [AV.cells] at hy;subst hy;rfl
    | 2,_,hy=>simp [AV.cells] at hy;subst hy;rfl
   ·have:=g1 j hj
    rw [Nat.zero_add,this]
    match j,hj with
    | 0,_=>rfl
    | 1,_=>rfl
    | 2,_=>rfl
  ·rw [Qzp,Qzm] at hx
   obtain ⟨r,hr,rfl⟩:=hx
   obtain ⟨w,g1,g2⟩:=hcell i r hr
   have hj:j<3:=(Qzs.1 hy).1
   rw [g1 j hj]
   match j,hj,hy with
   | 0,_,hy=>simp [AV.cells] at hy;subst hy;exact .int _ _
   | 1,_,hy=>simp [AV.cells] at hy;subst hy;exact .int _ _
   | 2,_,hy=>simp [AV.cells] at hy;subst hy;exact g2
end Ab
namespace Oyez
theorem insertR_at (r:Rec):∀ (l:List Rec) (i:Nat),i≤l.length→(∀ (m:Nat) (h:m<l.length),m<i→l[m].place.lt r.place=true)→(∀ (m:Nat) (h:m<l.length),i≤m→l[m].place.lt r.place=false)→r.place∉l.map Rec.place→Ym r l=l.take i++r::l.drop i:=by
 intro l
 induction l with
 | nil =>
  intro i hi _ _ _
  obtain rfl:i=0:=by simpa using hi
  rfl
 | cons q t ih =>
  intro i hi hlo hhi hn
  cases i with
  | zero =>
   have h0:=hhi 0 (by simp) (Nat.le_refl _)
   simp only [List.getElem_cons_zero] at h0
   have hne:¬ q.place=r.place:=fun e=>hn (by simp [e])
   have hlt:r.place.lt q.place=true:=by
    cases h:r.place.lt q.place with
    | true=>rfl
    | false=>exact absurd (Place.lt_tri h0 h) hne
   unfold Ym
   rw [if_pos hlt]
   rfl
  | succ i =>
   have h0:=hlo 0 (by simp) (by omega)
   simp only [List.getElem_cons_zero] at h0
   have hlt:¬ r.place.lt q.place=true:=fun h=>by
    have:=Place.lt_trans h0 h
    rw [Place.lt_irrefl] at this
    cases this
   unfold Ym
   rw [if_neg hlt,ih i (by simpa using hi) (fun m h hm=>by have:=hlo (m+1) (by simpa using h) (by omega);simpa using this) (fun m h hm=>by have:=hhi (m+1) (by simpa using h) (by omega);simpa using this) (fun h=>hn (by simp at h ⊢;exact .inr h))]
   rfl
end Oyez
namespace Ab
open Go Go.RowKit Go.Proofs
attribute [local irreducible] aws awp aw1 Og Om Oc Oa Ogd Ov Ot awd Ub awh Xc Ogh Ohd awl Ogl Ohl awv Ogv Ohv Zc Wc QFn Zd QRo QBe ACode AYield
def WdA (lo:Nat) (τ:Za) (q:Nat) (w:AV) (ws:List (List UInt8)):Prop:=(ws=[]∧w=.pl 1 [])∨∃ j,lo≤j∧j≠q∧w=.arr 1 j 0 ws.length∧τ[j]? = some (.cells (strs ws))
def pvY (y:Oyez.Rec × AV):PV:=(y.1.place,y.2)
structure RA (lo:Nat) (τ:Za) (q:Nat) (Y:List (Oyez.Rec × AV)):Prop where
 low:lo≤q
 row:τ[q]? = some (.cells (We (Y.map pvY)))
 wd:∀ y∈Y,WdA lo τ q y.2 y.1.words
theorem WdA.one {lo:Nat} {τ:Za} {q:Nat} {w:AV} {ws:List (List UInt8)} (h:WdA lo τ q w ws):w.one=true:=by
 rcases h with ⟨_,rfl⟩ | ⟨j,_,_,rfl,_⟩<;>rfl
theorem WdA.fz {n lo:Nat} {τ:Za} {q:Nat} {w:AV} {ws:List (List UInt8)} (hn:n≤lo) (h:WdA lo τ q w ws):Fz n τ w (Zb ws):=by
 rcases h with ⟨rfl,rfl⟩ | ⟨j,h1,_,rfl,h3⟩
 ·exact .pl0 1 1
 ·exact Vbb _ (by omega) h3
theorem WdA.mono {lo lo':Nat} {τ τ':Za} {q q':Nat} {w:AV} {ws:List (List UInt8)} (h:WdA lo τ q w ws) (hl:lo'≤lo) (hk:∀ j,lo≤j→j≠q→∀ o,τ[j]? = some o→τ'[j]? = some o∧j≠q'):WdA lo' τ' q' w ws:=by
 rcases h with h | ⟨j,h1,h2,h3,h4⟩
 ·exact .inl h
 ·have:=hk j h1 h2 _ h4
  exact .inr ⟨j,by omega,this.2,h3,this.1⟩
theorem RA.fz {n lo:Nat} {τ:Za} {q:Nat} {Y:List (Oyez.Rec × AV)} (hn:n≤lo) (h:RA lo τ q Y):Fz n τ (.arr 3 q 0 Y.length) (Xa (Y.map Prod.fst)):=by
 have hl:Y.length=((Y.map Prod.fst).map Yd).length:=by simp
 rw [hl]
 have hcell:∀ (i:Nat) (r:Oyez.Rec),(Y.map Prod.fst)[i]? = some r→∃ w,(∀ j,j<3→(We (Y.map pvY))[i*3+j]? = [AV.int .i64 r.kind,.int .i64 r.number,w][j]?)∧Fz n τ w (Zb r.words):=by
  intro i r hr
  rw [Qzp,Qzm] at hr
  obtain ⟨y,hy,rfl⟩:=hr
  have hi:=(Qzs.1 hy).1
  have hs:=Yaf (Y.map pvY) (i:=i) (by simpa using hi)
  have hyi:(Y.map pvY)[i]'(by simpa using hi)=pvY y:=by
   rw [List.getElem_map]
   rw [(Qzs.1 hy).2]
  rw [hyi] at hs
  refine ⟨y.2,fun j hj=>?_,(h.wd y (Qzg hy)).fz hn⟩
  have:=congrArg (fun l=>l[j]?) hs
  simp only [List.getElem?_take_of_lt hj,List.getElem?_drop] at this
  exact this
 refine Fz.arr 3 q 0 (We (Y.map pvY)) ((Y.map Prod.fst).map Yd) (fun i j=>((We (Y.map pvY))[i*3+j]?).getD .any) (Nat.le_trans hn h.low) h.row (fun i x hx=>?_) (fun i x hx j y hy=>?_)
 ·rw [Qzp,Qzm] at hx
  obtain ⟨r,hr,rfl⟩:=hx
  obtain ⟨w,g1,g2⟩:=hcell i r hr
  refine ⟨rfl,fun j y hy=>?_⟩
  have hj:j<3:=(Qzs.1 hy).1
  refine ⟨?_,?_⟩
  ·match j,hj,hy with
   | 0,_,hy=>simp [AV.cells] at hy;subst hy;rfl
   | 1,_,hy=>simp [AV.cells] at hy;subst hy;rfl
   | 2,_,hy=>simp [AV.cells] at hy;subst hy;rfl
  ·have:=g1 j hj
   rw [Nat.zero_add,this]
   match j,hj with
   | 0,_=>rfl
   | 1,_=>rfl
   | 2,_=>rfl
 ·rw [Qzp,Qzm] at hx
  obtain ⟨r,hr,rfl⟩:=hx
  obtain ⟨w,g1,g2⟩:=hcell i r hr
  have hj:j<3:=(Qzs.1 hy).1
  rw [g1 j hj]
  match j,hj,hy with
  | 0,_,hy=>simp [AV.cells] at hy;subst hy;exact .int _ _
  | 1,_,hy=>simp [AV.cells] at hy;subst hy;exact .int _ _
  | 2,_,hy=>simp [AV.cells] at hy;subst hy;exact g2
theorem RC.ra {σ g:Za} {F:List Oyez.Rec} {v:AV} (h:RC σ g F v):∃ q Y,v=.arr 3 q 0 Y.length∧Y.map Prod.fst=F∧RA σ.length (σ++g) q Y:=by
 obtain ⟨j,X,rfl,hg,hX,hx⟩:=h.ex
 have hY:(F.zip (X.map Prod.snd)).map pvY=X:=by
  apply List.ext_getElem
  ·simp;omega
  ·intro i h1 h2
   simp at h1
   have hF:F[i]? = some F[i]:=Qze (by omega)
   obtain ⟨w,hw,_⟩:=hx i F[i] hF
   rw [Qze h2] at hw
   have hw:=Option.some.inj hw
   rw [List.getElem_map,List.getElem_zip,hw]
   simp [pvY,hw]
 refine ⟨σ.length+j,F.zip (X.map Prod.snd),by simp [hX],by rw [List.map_fst_zip];simp [hX],⟨by omega,by rw [Zae,hY];exact hg,fun y hy=>?_⟩⟩
 obtain ⟨i,hi,rfl⟩:=List.getElem_of_mem hy
 simp at hi
 have hF:F[i]? = some F[i]:=Qze (by omega)
 obtain ⟨w,hw,hd⟩:=hx i F[i] hF
 have hXi:i<X.length:=by omega
 rw [Qze hXi] at hw
 have hw:=Option.some.inj hw
 rw [List.getElem_zip]
 simp only [List.getElem_map,hw]
 rcases hd with hd | ⟨k,h1,h2,h3⟩
 ·exact .inl hd
 ·exact .inr ⟨σ.length+k,by omega,fun e=>h3 (by rw [show j=k by omega]),h1,by rw [Zae];exact h2⟩
theorem Ydq (Y:List (Oyez.Rec × AV)) (p:Oyez.Place):Zq (Y.map pvY) p=(Y.filter fun y=>!decide (y.1.place=p)).map pvY∧(Y.filter fun y=>!decide (y.1.place=p)).map Prod.fst=Oyez.drop (Y.map Prod.fst) p:=by
 unfold Zq Oyez.drop
 rw [List.filter_map,List.filter_map]
 exact ⟨rfl,rfl⟩
theorem Xb5 (f:List Oyez.Rec) (S:Za):Xi 3 (Xa f) S=some (Zh f,f.length):=by
 show (if 3=3 then some ((f.map Yd).flatMap AV.cells,(f.map Yd).length) else none)=_
 rw [if_pos rfl,Uax,List.length_map]
set_option maxHeartbeats 4000000 in
theorem Ubj (f:List Oyez.Rec) (p:Oyez.Place) (hl:f.length≤2^30) (hw:∀ r∈f,r.words.length≤2^40) (σ:Za) :
  ACalls Tryz.prog 133 [Xa f,Xd p] σ fun v σ'=>∃ g q Y,σ'=σ++g∧v=.arr 3 q 0 Y.length∧Y.map Prod.fst=Oyez.drop f p∧RA σ.length σ' q Y:=by
 suffices hh:∀ Post:AV→Za→Prop,(∀ v σ',(∃ g q Y,σ'=σ++g∧v=.arr 3 q 0 Y.length∧Y.map Prod.fst=Oyez.drop f p∧RA σ.length σ' q Y)→Post v σ')→ACalls Tryz.prog 133 [Xa f,Xd p] σ Post from hh _ fun _ _ h=>h
 intro Post hPost
 refine Ua Tryz.func133 rfl (Wa Tryz.func133 (by decide) rfl) ?_
 simp [Tryz.ntmps133]
 refine StA.of ((Zbn f hl hw (Xa f) (σ++[AObj.cells [.int .i64 p.kind,.int .i64 p.number]]) (fun g=>Xb5 f _) (fun S=>by simp)).mono ?_)
 rintro v s ⟨g,rfl,h⟩
 obtain ⟨q,Y,rfl,rfl,hR⟩:=h.ra
 have hq:σ.length<q:=by have:=hR.low;simp at this;omega
 obtain ⟨k1,k2⟩:=Ydq Y p
 have hYl:Y.length=(Y.map pvY).length:=by simp
 have hd:=Yct (r:=q) (t:=σ.length) (Y.map pvY) p (fun x hx=>by
  obtain ⟨y,hy,rfl⟩:=List.mem_map.1 hx
  exact (hR.wd y hy).one) (by simp at hl ⊢;omega) (by omega) _ hR.row (by simp)
 rw [← hYl,k1] at hd
 refine StA.of (hd.mono ?_)
 rintro _ _ ⟨rfl,g2,rfl⟩
 have hql:=(Qzs.1 hR.row).1
 refine hPost _ _ ⟨([AObj.cells [AV.int .i64 p.kind,AV.int .i64 p.number]]++g).set (q - σ.length) (.cells (We ((Y.filter fun y=>!decide (y.1.place=p)).map pvY)))++g2,q,Y.filter fun y=>!decide (y.1.place=p),?_,by simp,k2,⟨by omega,?_,fun y hy=>?_⟩⟩
 ·rw [List.append_assoc σ,List.set_append_right _ _ (by omega),List.append_assoc]
 ·rw [Qzl (by simpa using hql),List.getElem?_set_self hql]
 ·refine (hR.wd y (List.mem_filter.1 hy).1).mono (by simp) fun j h1 h2 o ho=>⟨?_,h2⟩
  rw [Qzl (by rw [List.length_set];exact (Qzs.1 ho).1),List.getElem?_set_ne (Ne.symm h2)]
  exact ho
set_option maxHeartbeats 8000000 in
theorem Xcp (f:List Oyez.Rec) (r:Oyez.Rec) (hs:Oyez.RSorted f) (hl:f.length≤2^19) (hw:∀ x∈f,x.words.length≤2^40) (hwr:r.words.length≤2^40) (σ:Za) :
  ACalls Tryz.prog 134 [Xa f,Yd r] σ fun v σ'=>∃ g q Y,σ'=σ++g∧v=.arr 3 q 0 Y.length∧Y.map Prod.fst=Oyez.put f r∧RA σ.length σ' q Y:=by
 suffices hh:∀ Post:AV→Za→Prop,(∀ v σ',(∃ g q Y,σ'=σ++g∧v=.arr 3 q 0 Y.length∧Y.map Prod.fst=Oyez.put f r∧RA σ.length σ' q Y)→Post v σ')→ACalls Tryz.prog 134 [Xa f,Yd r] σ Post from hh _ fun _ _ h=>h
 intro Post hPost
 refine Ua Tryz.func134 rfl (Wa Tryz.func134 (by decide) rfl) ?_
 have c83:=Vbp r.place (Zb r.words) rfl
 simp [Tryz.ntmps134,Yd]
 refine c83.use ?_
 simp
 refine StA.of ((Ubj f r.place (by omega) hw (σ++[AObj.cells [AV.int .i64 r.kind,AV.int .i64 r.number,AV.pl 1 (r.words.map AV.str)]])).mono ?_)
 rintro _ _ ⟨g,q,Y,rfl,rfl,hYd,hR⟩
 have hqlo:=hR.low
 have hql:=(Qzs.1 hR.row).1
 simp at hqlo
 have hge:∀ Z:Za,(σ++[AObj.cells [AV.int .i64 r.kind,AV.int .i64 r.number,AV.pl 1 (r.words.map AV.str)]]++g++Z)[σ.length]? = some (AObj.cells [AV.int .i64 r.kind,AV.int .i64 r.number,AV.pl 1 (r.words.map AV.str)]):=fun Z=>by
  rw [List.append_assoc,List.append_assoc,Qzr (Nat.le_refl _),Nat.sub_self]
  rfl
 have hge0:=hge []
 rw [List.append_nil] at hge0
 obtain ⟨S,hS⟩:∃ S,σ++[AObj.cells [AV.int .i64 r.kind,AV.int .i64 r.number,AV.pl 1 (r.words.map AV.str)]]++g=S:=⟨_,rfl⟩
 rw [hS] at hR hge0 hql ⊢
 have hge1:∀ Z:Za,(S++Z)[σ.length]? = some (AObj.cells [AV.int .i64 r.kind,AV.int .i64 r.number,AV.pl 1 (r.words.map AV.str)]):=fun Z=>Vf hge0
 have hYs:((Y.map pvY).map Prod.fst)=(Oyez.drop f r.place).map Oyez.Rec.place:=by rw [← hYd];simp [pvY]
 have hYl:Y.length=(Y.map pvY).length:=by simp
 have hYf:Y.length≤f.length:=by
  have:=congrArg List.length hYd
  rw [List.length_map] at this
  rw [this]
  exact List.length_filter_le _ _
 have hbs:=Wdr (r:=q) (Y.map pvY) r.place (fun x hx=>by
  obtain ⟨y,hy,rfl⟩:=List.mem_map.1 hx
  exact (hR.wd y hy).one) (by rw [hYs];exact Oyez.drop_sorted hs _) (by rw [← hYl];omega) S hR.row
 rw [← hYl] at hbs
 simp [hge0]
 refine c83.use ?_
 simp [hge0]
 refine StA.of (hbs.mono ?_)
 rintro _ s1 ⟨hs1,i,B,rfl,hP⟩
 rw [hs1]
 clear hs1 s1
 simp [hge0,hge1]
 obtain ⟨S2,hS2⟩:∃ S2,S++[AObj.cells [AV.int .i64 r.kind,AV.int .i64 r.number,AV.pl 1 (r.words.map AV.str)]]=S2:=⟨_,rfl⟩
 have hrow2:∀ Z:Za,(S2++Z)[S.length]? = some (AObj.cells [AV.int .i64 r.kind,AV.int .i64 r.number,AV.pl 1 (r.words.map AV.str)]):=fun Z=>by
  rw [← hS2,List.append_assoc,Qzr (Nat.le_refl _),Nat.sub_self]
  rfl
 have hcr:Zh [r]=[AV.int .i64 r.kind,AV.int .i64 r.number,AV.pl 1 (r.words.map AV.str)]:=rfl
 have hS2l:S2.length=S.length+1:=by rw [← hS2];simp
 rw [hS2]
 refine StA.of ((Zbn [r] (by simp) (fun x hx=>by rw [List.mem_singleton.1 hx];exact hwr) (.arr 3 S.length 0 1) S2 (fun Z=>by
  rw [Xbi (hrow2 Z) (by simp) (by
   intro x hx
   have hx:x∈[AV.int .i64 r.kind,AV.int .i64 r.number,AV.pl 1 (r.words.map AV.str)]:=hx
   simp at hx
   rcases hx with rfl | rfl | rfl<;>rfl),hcr]
  rfl) (fun Z=>by simp)).mono ?_)
 rintro v s2 ⟨g2,hs2,hC⟩
 obtain ⟨q2,Y2,rfl,hY2,hR2⟩:=hC.ra
 rw [hs2]
 clear hs2 s2 hC
 obtain ⟨y2,rfl⟩:∃ y,Y2=[y]:=by
  match Y2,hY2 with
  | [y],_=>exact ⟨y,rfl⟩
 obtain rfl:y2.1=r:=by simpa using hY2
 have hq2lo:=hR2.low
 have hq2l:=(Qzs.1 hR2.row).1
 have hrowS2:∀ (j:Nat) (o:AObj),S[j]? = some o→(S2++g2)[j]? = some o:=fun j o h=>by
  rw [← hS2,List.append_assoc]
  exact Vf h
 have hi:i≤Y.length:=by rw [hYl];exact hP.le
 have hins:=Zd6 (r:=q) (r2:=q2) (n:=Y.length) (i:=i) (S2++g2) (by omega) (hrowS2 _ _ hR.row) hR2.row (by rw [Zt,← hYl]) (by rw [Zt];rfl) (Wcd fun x hx=>by
  obtain ⟨y,hy,rfl⟩:=List.mem_map.1 hx
  exact (hR.wd y hy).one) (Wcd fun x hx=>by
  obtain ⟨y,hy,rfl⟩:=List.mem_map.1 hx
  exact (hR2.wd y hy).one) hi (by omega)
 simp [hge0,hge1]
 refine StA.of (hins.mono ?_)
 rintro v s3 ⟨r',rfl,h1,h2,h3,h4⟩
 have hput:Oyez.put f y2.1=(Oyez.drop f y2.1.place).take i++y2.1::(Oyez.drop f y2.1.place).drop i:=by
  unfold Oyez.put
  refine Oyez.insertR_at y2.1 _ i (by rw [← hYd,List.length_map];exact hi) (fun m h hm=>?_) (fun m h hm=>?_) fun h=>?_
  ·have:=hP.lo m (by rw [← hYl];rw [← hYd,List.length_map] at h;exact h) hm
   simp only [← hYd,List.getElem_map] at this ⊢
   exact this
  ·have:=hP.hi m (by rw [← hYl];rw [← hYd,List.length_map] at h;exact h) hm
   simp only [← hYd,List.getElem_map] at this ⊢
   exact this
  ·obtain ⟨x,hx,he⟩:=List.mem_map.1 h
   have:=(List.mem_filter.1 hx).2
   simp [he] at this
 have htk:s3.take σ.length=σ:=by
  apply List.ext_getElem?
  intro k
  rcases Qzn k σ.length with hk | hk
  ·rw [List.getElem?_take_of_lt hk,h4 k (by omega) (by simp;omega)]
   have:S[k]? = σ[k]?:=by rw [← hS,List.append_assoc,Qzl hk]
   rw [← this]
   have hkS:k<S.length:=by omega
   rw [Qze hkS]
   exact hrowS2 k _ (Qze hkS)
  ·rw [List.getElem?_eq_none (by rw [List.length_take];omega),List.getElem?_eq_none hk]
 refine hPost _ _ ⟨s3.drop σ.length,r',Y.take i++y2::Y.drop i,?_,?_,?_,⟨?_,?_,fun y hy=>?_⟩⟩
 ·conv=>lhs;rw [← List.take_append_drop σ.length s3,htk]
 ·congr 1
  simp
  omega
 ·rw [hput,← hYd]
  simp
 ·rcases h3 with h3 | h3
  ·omega
  ·simp at h3;omega
 ·rw [h1]
  unfold Ww
  rw [(Vao (Y.map pvY) i (by rw [← hYl];exact hi)).1,(Vao (Y.map pvY) i (by rw [← hYl];exact hi)).2,← Vay,← Vay]
  simp
 ·have hy':y∈Y∨y=y2:=by
   rcases List.mem_append.1 hy with h | h
   ·exact .inl (List.mem_of_mem_take h)
   ·rcases List.mem_cons.1 h with h | h
    ·exact .inr h
    ·exact .inl (List.mem_of_mem_drop h)
  rcases hy' with hy' | rfl
  ·refine (hR.wd y hy').mono (by simp) fun j g1 g2 o ho=>?_
   have hjS:=(Qzs.1 ho).1
   refine ⟨by rw [h4 j g2 (by simp;omega)];exact hrowS2 j o ho,?_⟩
   rcases h3 with h3 | h3
   ·omega
   ·simp at h3;omega
  ·refine (hR2.wd y (by simp)).mono (by omega) fun j g1 g2 o ho=>?_
   have hjS:=(Qzs.1 ho).1
   refine ⟨by rw [h4 j (by omega) hjS];exact ho,?_⟩
   rcases h3 with h3 | h3
   ·omega
   ·omega
def FileO (lo:Nat) (τ:Za) (v:AV) (F:List Oyez.Rec):Prop:=(F=[]∧v=.nils)∨∃ q Y,v=.arr 3 q 0 Y.length∧Y.map Prod.fst=F∧RA lo τ q Y
theorem FileO.fz {n lo:Nat} {τ:Za} {v:AV} {F:List Oyez.Rec} (hn:n≤lo) (h:FileO lo τ v F):Fz n τ v (Xa F):=by
 rcases h with ⟨rfl,rfl⟩ | ⟨q,Y,rfl,rfl,h⟩
 ·exact .nils_pl 3
 ·exact h.fz hn
def WdO (lo:Nat) (τ:Za) (v:AV) (ws:List (List UInt8)):Prop:=(ws=[]∧(v=.nils∨v=.pl 1 []))∨∃ j,lo≤j∧v=.arr 1 j 0 ws.length∧τ[j]? = some (.cells (strs ws))
theorem WdO.fz {n lo:Nat} {τ:Za} {v:AV} {ws:List (List UInt8)} (hn:n≤lo) (h:WdO lo τ v ws):Fz n τ v (Zb ws):=by
 rcases h with ⟨rfl,rfl | rfl⟩ | ⟨j,h1,rfl,h3⟩
 ·exact .nils_pl 1
 ·exact .pl0 1 1
 ·exact Vbb _ (by omega) h3
end Ab

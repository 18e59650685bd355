/-
  Texts packed for a claim.
-/
import Derived.Test.YtcoikmapjepdjaaGreatDoorD00
import Derived.Test.YtcoikmapjepdjaaGreatDoorD17
import Derived.Test.YtcoikmapjepdjaaGreatDoorD15
import Derived.Test.YtcoikmapjepdjaaGreatDoorD21
import Derived.Test.YtcoikmapjepdjaaGreatDoorD28
import Derived.Test.YtcoikmapjepdjaaGreatDoorD27
import Derived.Test.YtcoikmapjepdjaaGreatDoorD30
import Derived.Test.YtcoikmapjepdjaaGreatDoorD31
set_option linter.all false
namespace Oyez
end Oyez
namespace Ab
open Go Go.RowKit Go.Proofs
attribute [local irreducible] aws awp aw1 Og Om Oc Oa Ogd Ov Ot awd Zb awh Xb Ogh Ohd awl Ogl Ohl awv Ogv Ohv Wb Vb QFn Ub QRo QBe ACode AYield
theorem Ue5 (σ:Za) (x:AV) (hx:x.one=true):ACalls Tryz.prog 8 [x] σ (fun v σ'=>v=.ptr σ.length 0∧σ'=σ++[.cells [x,.int .i64 0,.int .u32 0]]):=by
 refine Yb Tryz.func8 rfl (Va Tryz.func8 (by decide) rfl) ?_
 cases x<;>first | (simp [AV.one] at hx;done) | simp [Tryz.ntmps8]
end Ab
namespace Ab
open Go Go.RowKit Go.Proofs
attribute [local irreducible] aws awp aw1 Og Om Oc Oa Ogd Ov Ot awd Zb awh Xb Ogh Ohd awl Ogl Ohl awv Ogv Ohv Wb Vb QFn Ub QRo QBe ACode AYield
end Ab
namespace Ab
open Go Go.RowKit Go.Proofs
attribute [local irreducible] aws awp aw1 Og Om Oc Oa Ogd Ov Ot awd Zb awh Xb Ogh Ohd awl Ogl Ohl awv Ogv Ohv Wb Vb QFn Ub QRo QBe ACode AYield
structure GoodF (f:List Oyez.Rec):Prop where
 recs:∀ r∈f,Oyez.recErr r=0
 sorted:Oyez.RSorted f
 words:∀ r∈f,∀ w∈r.words,w∈Ycv
theorem GoodF.nil:GoodF []:=⟨by simp,by simp [Oyez.RSorted,Oyez.Sorted],by simp⟩
end Ab
namespace Ab
open Go Go.RowKit Go.Proofs
theorem Zbf {f:List Oyez.Rec} (h:Oyez.check f=0):Few f∧f.length≤40∧(Oyez.print f).length≤2600∧∀ r∈f,r.words.length≤2^40:=by
 have hr:=Oyez.check_zero h
 have hl:=hr.len
 have hp:=Zb6 hr.recs
 have key:∀ r∈f,Xv r.words≤64∧r.words.length≤6:=fun r hm=>by
  obtain ⟨_,h2⟩:=(Oyez.recErr_iff r).1 (hr.recs r hm)
  obtain ⟨h3,h4,h5⟩:=Oyez.wordsErr_zero h2
  refine ⟨?_,h3⟩
  unfold Oyez.line at h5
  rw [List.length_append,Wce] at h5
  omega
 exact ⟨fun r hm=>⟨by have:=(key r hm).1;omega,by have:=(key r hm).2;omega⟩,hl,by omega,fun r hm=>by have:=(key r hm).2;omega⟩
theorem GoodF.right {f:List Oyez.Rec} (h:GoodF f) (hl:f.length≤40):Oyez.Right f:=⟨hl,h.recs,h.sorted⟩
def dmg (b:UInt8) (dm:Nat):UInt8:=UInt8.ofNat (b.toNat+(1+dm / 256 % 255))
structure CopyOf (f a:List Oyez.Rec) (e:List Oyez.Place):Prop where
 good:GoodF a
 len:a.length≤f.length+3
 few:e.length≤3
 at_:∀ r∈a,r.place∈f.map Oyez.Rec.place∨r.place∈e
theorem CopyOf.mem {f a:List Oyez.Rec} {e:List Oyez.Place} (h:CopyOf f a e):∀ p∈a.map Oyez.Rec.place,p∈f.map Oyez.Rec.place++e:=fun p hp=>by
 obtain ⟨r,hr,rfl⟩:=List.mem_map.1 hp
 exact List.mem_append.2 (h.at_ r hr)
end Ab
namespace Ab
open Go Go.RowKit Go.Proofs
def Xe1 (b:Bool):List UInt8:=if b then [104,101,97,114,100] else [110,111,116]
def Wb0:List (List UInt8):=[[48],[49],[50],[51],[52],[53],[54],[55],[56],[57],[104,101,97,114,100],[110,111,116]]
theorem Wct:∀ w∈Wb0,Oyez.word w=true∧w.length≤6:=by decide
theorem Ubl {n:Int} (h0:0≤n) (h1:n≤9):Lib.itoa n∈Wb0∧(Lib.itoa n).length≤6∧Vaq (Lib.itoa n)=.tup [.int .i64 n,.nili]:=by
 have:n=0∨n=1∨n=2∨n=3∨n=4∨n=5∨n=6∨n=7∨n=8∨n=9:=by omega
 rcases this with rfl | rfl | rfl | rfl | rfl | rfl | rfl | rfl | rfl | rfl
 ·rw [show Lib.itoa 0=[48] by kernel_rfl];exact ⟨by decide,by decide,by kernel_rfl⟩
 ·rw [show Lib.itoa 1=[49] by kernel_rfl];exact ⟨by decide,by decide,by kernel_rfl⟩
 ·rw [show Lib.itoa 2=[50] by kernel_rfl];exact ⟨by decide,by decide,by kernel_rfl⟩
 ·rw [show Lib.itoa 3=[51] by kernel_rfl];exact ⟨by decide,by decide,by kernel_rfl⟩
 ·rw [show Lib.itoa 4=[52] by kernel_rfl];exact ⟨by decide,by decide,by kernel_rfl⟩
 ·rw [show Lib.itoa 5=[53] by kernel_rfl];exact ⟨by decide,by decide,by kernel_rfl⟩
 ·rw [show Lib.itoa 6=[54] by kernel_rfl];exact ⟨by decide,by decide,by kernel_rfl⟩
 ·rw [show Lib.itoa 7=[55] by kernel_rfl];exact ⟨by decide,by decide,by kernel_rfl⟩
 ·rw [show Lib.itoa 8=[56] by kernel_rfl];exact ⟨by decide,by decide,by kernel_rfl⟩
 ·rw [show Lib.itoa 9=[57] by kernel_rfl];exact ⟨by decide,by decide,by kernel_rfl⟩
def Ucp (i:Nat) (c:Cr):Oyez.Rec:=⟨0,i,[Lib.itoa c.hour,Lib.itoa c.stand,Lib.itoa c.notice]⟩
def Vgu (i:Nat) (c:Cm):Oyez.Rec:=⟨4,i,[Lib.itoa c.house,Lib.itoa c.notice,Xe1 c.heard]⟩
def Whx (l:List Cr):List Oyez.Rec:=l.mapIdx Ucp
def Zh4 (l:List Cm):List Oyez.Rec:=l.mapIdx Vgu
def Whp (c:Cr):Prop:=(0≤c.hour∧c.hour≤9)∧(0≤c.stand∧c.stand≤9)∧0≤c.notice∧c.notice≤9
def Zh6 (c:Cm):Prop:=(0≤c.house∧c.house≤9)∧0≤c.notice∧c.notice≤9
end Ab
namespace Ab
theorem Xat {α:Type} [BEq α] [LawfulBEq α]:∀ (l1 l2:List α),l1.Nodup→(∀ x∈l1,x∈l2)→l1.length≤l2.length:=by
 intro l1
 induction l1 with
 | nil=>intro l2 _ _;simp
 | cons x l1 ih =>
  intro l2 hn hs
  rw [List.nodup_cons] at hn
  have hx:x∈l2:=hs x (by simp)
  have h2:=ih (l2.erase x) hn.2 fun y hy=>(List.mem_erase_of_ne fun e=>hn.1 (by rw [← e];exact hy)).2 (hs y (by simp [hy]))
  have h3:=List.length_erase_of_mem hx
  have h4:0<l2.length:=List.length_pos_of_mem hx
  simp
  omega
theorem Wak {α β:Type} {f:α→β}:∀ {l:List α},l.Nodup→(∀ x∈l,∀ y∈l,f x=f y→x=y)→(l.map f).Nodup:=by
 intro l
 induction l with
 | nil=>intro _ _;simp
 | cons x l ih =>
  intro hn hf
  rw [List.nodup_cons] at hn
  rw [List.map_cons,List.nodup_cons]
  refine ⟨fun hm=>?_,ih hn.2 fun a ha b hb=>hf a (by simp [ha]) b (by simp [hb])⟩
  obtain ⟨y,hy,e⟩:=List.mem_map.1 hm
  have:=hf y (by simp [hy]) x (by simp) e
  exact hn.1 (this▸hy)
section
variable {slots:Nat} {N:List (Nat × Int)} {t:Tab}
theorem SlInv.free (h:SlInv slots N t) {n:Int} (hn:0≤n) (hlt:(N.filter fun p=>p.2 == n).length<slots):∃ s,s<slots∧∀ m,t s m≠n:=by
 apply Classical.byContradiction
 intro hno
 have hall:∀ s,s<slots→∃ m,t s m=n:=fun s hs=>by
  apply Classical.byContradiction
  intro h2
  exact hno ⟨s,hs,fun m e=>h2 ⟨m,e⟩⟩
 have hf:∃ f:Nat→Nat,∀ s,s<slots→t s (f s)=n:=⟨fun s=>Classical.epsilon fun m=>t s m=n,fun s hs=>Classical.epsilon_spec (hall s hs)⟩
 obtain ⟨f,hf⟩:=hf
 have hl:=Xat ((List.range slots).map fun s=>(f s,n)) (N.filter fun p=>p.2 == n) (Wak List.nodup_range fun s1 h1 s2 h2 e=>by
  have h1':=List.mem_range.1 h1
  have h2':=List.mem_range.1 h2
  simp at e
  have a1:=hf s1 h1'
  have a2:=hf s2 h2'
  refine h.uniq s1 s2 (f s1) (by rw [a1,e,a2]) (by omega)) fun x hx=>by
  obtain ⟨s,hs,rfl⟩:=List.mem_map.1 hx
  have a1:=hf s (List.mem_range.1 hs)
  have:=h.mem s (f s) (by omega)
  rw [a1] at this
  simp [this]
 rw [List.length_map,List.length_range] at hl
 omega
theorem SlInv.opens (h:SlInv slots N t) {man:Nat} (hlt:(N.filter fun p=>p.1 == man).length<slots):∃ s,s<slots∧t s man=-1:=by
 apply Classical.byContradiction
 intro hno
 have hall:∀ s,s<slots→t s man≠-1:=fun s hs e=>hno ⟨s,hs,e⟩
 have hl:=Xat ((List.range slots).map fun s=>(man,t s man)) (N.filter fun p=>p.1 == man) (Wak List.nodup_range fun s1 h1 s2 h2 e=>by
  have h1':=List.mem_range.1 h1
  simp at e
  exact h.uniq s1 s2 man e (hall s1 h1')) fun x hx=>by
  obtain ⟨s,hs,rfl⟩:=List.mem_map.1 hx
  have:=h.mem s man (hall s (List.mem_range.1 hs))
  simp [this]
 rw [List.length_map,List.length_range] at hl
 omega
end
def Ui (t:Tab) (s:Nat):Nat→List Ent
 | 0=>[]
 | m+1=>Ui t s m++if t s m=-1 then [] else [(s,m,t s m)]
def Wg (t:Tab) (men:Nat):Nat→List Ent
 | 0=>[]
 | s+1=>Wg t men s++Ui t s men
theorem Vef {t:Tab} {s:Nat} {e:Ent}:∀ {m:Nat},e∈Ui t s m↔e.1=s∧e.2.1<m∧e.2.2=t s e.2.1∧t s e.2.1≠-1:=by
 intro m
 induction m with
 | zero=>simp [Ui]
 | succ m ih =>
  rw [Ui,List.mem_append,ih]
  constructor
  ·rintro (⟨h1,h2,h3⟩ | h)
   ·exact ⟨h1,by omega,h3⟩
   ·split at h
    ·simp at h
    ·rw [List.mem_singleton] at h;subst h;simp;assumption
  ·rintro ⟨h1,h2,h3,h4⟩
   by_cases hm:e.2.1<m
   ·exact .inl ⟨h1,hm,h3,h4⟩
   ·right
    have:e.2.1=m:=by omega
    rw [this] at h3 h4
    rw [if_neg h4,List.mem_singleton]
    obtain ⟨a,b,c⟩:=e
    simp at h1 this h3
    simp [h1,this,h3]
theorem entE_mem {t:Tab} {men:Nat} {e:Ent}:∀ {s:Nat},e∈Wg t men s↔e.1<s∧e.2.1<men∧e.2.2=t e.1 e.2.1∧t e.1 e.2.1≠-1:=by
 intro s
 induction s with
 | zero=>simp [Wg]
 | succ s ih =>
  rw [Wg,List.mem_append,ih,Vef]
  constructor
  ·rintro (⟨h1,h2⟩ | ⟨h1,h2,h3,h4⟩)
   ·exact ⟨by omega,h2⟩
   ·rw [h1];exact ⟨by omega,h2,h3,h4⟩
  ·rintro ⟨h1,h2,h3,h4⟩
   by_cases hm:e.1<s
   ·exact .inl ⟨hm,h2,h3,h4⟩
   ·right
    have:e.1=s:=by omega
    rw [this] at h3 h4
    exact ⟨this,h2,h3,h4⟩
def Wh (e:Ent):Int:=10*(e.1:Int)+(e.2.1:Int)
theorem Wei {t:Tab} {s:Nat}:∀ {m:Nat},m≤10→((Ui t s m).map Wh).Pairwise (·<·)∧∀ x∈(Ui t s m).map Wh,10*(s:Int)≤x∧x<10*(s:Int)+m:=by
 intro m
 induction m with
 | zero=>intro _;simp [Ui]
 | succ m ih =>
  intro h10
  obtain ⟨h1,h2⟩:=ih (by omega)
  rw [Ui]
  split
  ·rw [List.append_nil]
   exact ⟨h1,fun x hx=>by have:=h2 x hx;omega⟩
  ·rw [List.map_append]
   refine ⟨?_,fun x hx=>?_⟩
   ·rw [List.pairwise_append]
    refine ⟨h1,by simp,fun a ha b hb=>?_⟩
    simp [Wh] at hb
    have:=h2 a ha
    omega
   ·rcases List.mem_append.1 hx with hx | hx
    ·have:=h2 x hx;omega
    ·simp [Wh] at hx;omega
theorem Wb6 {t:Tab} {men:Nat} (hm:men≤10):∀ {s:Nat},((Wg t men s).map Wh).Pairwise (·<·)∧∀ x∈(Wg t men s).map Wh,0≤x∧x<10*(s:Int):=by
 intro s
 induction s with
 | zero=>simp [Wg]
 | succ s ih =>
  obtain ⟨h1,h2⟩:=ih
  obtain ⟨h3,h4⟩:=Wei (t:=t) (s:=s) hm
  rw [Wg,List.map_append]
  refine ⟨?_,fun x hx=>?_⟩
  ·rw [List.pairwise_append]
   refine ⟨h1,h3,fun a ha b hb=>?_⟩
   have:=h2 a ha
   have:=h4 b hb
   omega
  ·rcases List.mem_append.1 hx with hx | hx
   ·have:=h2 x hx;omega
   ·have:=h4 x hx;omega
def Wm (E:List Ent) (n:Int):List Int:=(E.filter fun e=>e.2.2 == n).map fun e=>(e.2.1:Int)
theorem Ze5 (E:List Ent) (e:Ent) (n:Int):Wm (E++[e]) n=Wm E n++if e.2.2=n then [(e.2.1:Int)] else []:=by
 unfold Wm
 rw [List.filter_append,List.map_append]
 by_cases h:e.2.2=n<;>simp [h]
theorem Ugj:∀ {a b:List Int},a.Pairwise (·<·)→b.Pairwise (·<·)→(∀ x,x∈a↔x∈b)→a=b:=by
 intro a
 induction a with
 | nil=>intro b _ _ h;cases b with
  | nil=>rfl
  | cons y b=>exact absurd ((h y).2 (by simp)) (by simp)
 | cons x a ih =>
  intro b ha hb h
  cases b with
  | nil=>exact absurd ((h x).1 (by simp)) (by simp)
  | cons y b =>
   rw [List.pairwise_cons] at ha hb
   have hxy:x=y:=by
    have h1:=(h x).1 (by simp)
    have h2:=(h y).2 (by simp)
    rcases List.mem_cons.1 h1 with h1 | h1
    ·exact h1
    ·rcases List.mem_cons.1 h2 with h2 | h2
     ·exact h2.symm
     ·have:=ha.1 y h2
      have:=hb.1 x h1
      omega
   subst hxy
   rw [ih ha.2 hb.2 fun z=>?_]
   constructor
   ·intro hz
    have:=(h z).1 (by simp [hz])
    rcases List.mem_cons.1 this with e | e
    ·have:=ha.1 z hz;omega
    ·exact e
   ·intro hz
    have:=(h z).2 (by simp [hz])
    rcases List.mem_cons.1 this with e | e
    ·have:=hb.1 z hz;omega
    ·exact e
theorem Ub1 {slots men:Nat} {N:List (Nat × Int)} {t:Tab} (h:SlInv slots N t) (hN:∀ m n,(m,n)∈N→m<men) (n:Int) (hn:0≤n) (x:Int):x∈Wm (Wg t men slots) n↔∃ m:Nat,x=m∧(m,n)∈N:=by
 unfold Wm
 rw [List.mem_map]
 constructor
 ·rintro ⟨e,he,rfl⟩
  rw [List.mem_filter,entE_mem] at he
  obtain ⟨⟨h1,h2,h3,h4⟩,h5⟩:=he
  have h5':e.2.2=n:=by simpa using h5
  refine ⟨e.2.1,rfl,?_⟩
  rw [← h5',h3]
  exact h.mem _ _ h4
 ·rintro ⟨m,rfl,hm⟩
  obtain ⟨s,e⟩:=h.all m n hm
  have hne:t s m≠-1:=by omega
  exact ⟨(s,m,n),by rw [List.mem_filter,entE_mem];exact ⟨⟨h.lt hne,hN m n hm,e.symm,hne⟩,by simp⟩,rfl⟩
theorem Ug4 {slots men:Nat} {N:List (Nat × Int)} {t:Tab} (h:SlInv slots N t) (hm:men≤10) (n:Int):(Wm (Wg t men slots) n).Nodup:=by
 unfold Wm
 have hs:=(Wb6 (t:=t) hm (s:=slots)).1
 have hnd:(Wg t men slots).Nodup:=by
  rw [List.pairwise_map] at hs
  exact hs.imp fun {a b} hab e=>by rw [e] at hab;omega
 refine Wak (List.Pairwise.filter _ hnd) fun x hx y hy e=>?_
 rw [List.mem_filter,entE_mem] at hx hy
 have hx5:x.2.2=n:=by simpa using hx.2
 have hy5:y.2.2=n:=by simpa using hy.2
 have e':x.2.1=y.2.1:=by omega
 obtain ⟨xs,xm,xn⟩:=x
 obtain ⟨ys,ym,yn⟩:=y
 simp at hx hy hx5 hy5 e'
 subst e'
 have hxt:t xs xm=n:=by rw [← hx.1.2.2.1,hx5]
 have hyt:t ys xm=n:=by rw [← hy.1.2.2.1,hy5]
 have:=h.uniq xs ys xm (by rw [hxt,hyt]) (by have:=hx.1.2.2.2;omega)
 simp [this,hx5,hy5]
end Ab
namespace Ab
open Go Go.RowKit Go.Proofs
def Xy:List UInt8:=[110,111,116,104,105,110,103]
def Vhp (e:Ent):Oyez.Rec:=⟨1,Wh e,[Lib.itoa e.2.2]⟩
def wrE (e:Ent):Oyez.Rec:=⟨1,Wh e,[Xy]⟩
structure EntsOk (E:List Ent):Prop where
 srt:(E.map Wh).Pairwise (·<·)
 num:∀ e∈E,e.1≤8∧e.2.1≤5
 val:∀ e∈E,0≤e.2.2∧e.2.2≤9
 len:E.length≤40
theorem EntsOk.filter {E:List Ent} (h:EntsOk E) (q:Ent→Bool):EntsOk (E.filter q) :=
 ⟨by have:=h.srt;rw [List.pairwise_map] at this ⊢;exact List.Pairwise.filter q this,fun e he=>h.num e (List.mem_filter.1 he).1,fun e he=>h.val e (List.mem_filter.1 he).1,Nat.le_trans (List.length_filter_le _ _) h.len⟩
theorem EntsOk.inj {E:List Ent} (h:EntsOk E) {a b:Ent} (ha:a∈E) (hb:b∈E) (e:Wh a=Wh b):a=b:=by
 have key:∀ (E:List Ent),(E.map Wh).Pairwise (·<·)→∀ a∈E,∀ b∈E,Wh a=Wh b→a=b:=by
  intro E
  induction E with
  | nil=>intro _ a ha;simp at ha
  | cons x E ih =>
   intro hs a ha b hb e
   rw [List.map_cons,List.pairwise_cons] at hs
   rcases List.mem_cons.1 ha with ha | ha<;>rcases List.mem_cons.1 hb with hb | hb
   ·rw [ha,hb]
   ·have:=hs.1 _ (List.mem_map_of_mem hb)
    rw [← ha] at this;omega
   ·have:=hs.1 _ (List.mem_map_of_mem ha)
    rw [← hb] at this;omega
   ·exact ih hs.2 a ha b hb e
 exact key E h.srt a ha b hb e
theorem Zek {n:Int} {w:List UInt8} (hn:0≤n) (hn2:n≤99) (hw:Oyez.word w=true) (hl:w.length≤12):Oyez.recErr ⟨1,n,[w]⟩=0:=by
 rw [Oyez.recErr_iff]
 constructor
 ·unfold Oyez.placeErr
  simp only
  rw [if_neg (by omega),if_neg (by omega)]
 ·unfold Oyez.wordsErr
  simp only
  have hall:[w].all Oyez.word=true:=by simp [hw]
  rw [if_neg (by simp),hall,if_neg (by simp),if_neg]
  have h1:(Oyez.name 1).length=6:=by decide
  have h2:(Oyez.digits n).length≤2:=Oyez.digits_len 1 n.toNat (by omega)
  unfold Oyez.line
  simp only [List.length_append,List.length_cons,List.length_nil,List.flatMap_cons,List.flatMap_nil]
  omega
def Zc (f:Ent→List UInt8) (E:List Ent):List Oyez.Rec:=E.map fun e=>⟨1,Wh e,[f e]⟩
theorem Uab {f:Ent→List UInt8} {E:List Ent} (h:EntsOk E) (hf:∀ e∈E,Oyez.word (f e)=true∧(f e).length≤12):Oyez.Right (Zc f E):=by
 refine ⟨by unfold Zc;rw [List.length_map];exact h.len,fun r hr=>?_,?_⟩
 ·obtain ⟨e,he,rfl⟩:=List.mem_map.1 hr
  have h1:=h.num e he
  exact Zek (by unfold Wh;omega) (by unfold Wh;omega) (hf e he).1 (hf e he).2
 ·have hs:=h.srt
  unfold Oyez.RSorted Oyez.Sorted Zc
  rw [List.map_map,List.pairwise_map]
  rw [List.pairwise_map] at hs
  refine hs.imp fun {a b} hab=>?_
  rw [Oyez.Place.lt_iff]
  exact .inr ⟨rfl,hab⟩
theorem recsW_place {f:Ent→List UInt8} {E:List Ent} {p:Oyez.Place}:p∈(Zc f E).map Oyez.Rec.place↔p.kind=1∧∃ e∈E,Wh e=p.number:=by
 unfold Zc
 rw [List.map_map,List.mem_map]
 constructor
 ·rintro ⟨e,he,rfl⟩
  exact ⟨rfl,e,he,rfl⟩
 ·rintro ⟨h1,e,he,h2⟩
  refine ⟨e,he,?_⟩
  show (⟨1,Wh e⟩:Oyez.Place)=p
  rw [h2,← h1]
theorem Zaw {f:Ent→List UInt8} {E:List Ent} (h:Oyez.RSorted (Zc f E)) {e:Ent} (he:e∈E):Oyez.getIn (Zc f E) ⟨1,Wh e⟩=some [f e] :=
 Oyez.mem_getIn h (r:=⟨1,Wh e,[f e]⟩) (List.mem_map_of_mem (f:=fun e=>(⟨1,Wh e,[f e]⟩:Oyez.Rec)) he)
def Wc (e:Ent):List UInt8:=Lib.itoa e.2.2
def Wk (_:Ent):List UInt8:=Xy
theorem Xag {E:List Ent} (h:EntsOk E):∀ e∈E,Oyez.word (Wc e)=true∧(Wc e).length≤12:=fun e he=>by
 have h1:=Ubl (h.val e he).1 (h.val e he).2
 have h2:=Wct _ h1.1
 exact ⟨h2.1,by unfold Wc;omega⟩
theorem Zca (E:List Ent):∀ e∈E,Oyez.word (Wk e)=true∧(Wk e).length≤12:=fun e _=>by unfold Wk Xy;decide
theorem Zd1 {E:List Ent} (h:EntsOk E):∀ e∈E,Wc e≠Wk e:=fun e he hh=>by
 have h1:=(Ubl (h.val e he).1 (h.val e he).2).2.1
 have:(Wc e).length=7:=by rw [hh];rfl
 unfold Wc at this
 omega
end Ab
namespace Ab
open Go Go.RowKit Go.Proofs
theorem Vdy {L:List Int} {k:Int} {i:Nat} (hn:L.Nodup) (hk:k∉L) (hi:i<L.length):(L.set i k++[L[i]]).Nodup:=by
 have key:∀ (L:List Int) (i:Nat) (k:Int),L.Nodup→k∉L→∀ (hi:i<L.length),(L.set i k++[L[i]]).Nodup∧∀ x∈L.set i k,x=k∨x∈L:=by
  intro L
  induction L with
  | nil=>intro i k _ _ hi;simp at hi
  | cons y L ih =>
   intro i k hn hk hi
   rw [List.nodup_cons] at hn
   rw [List.mem_cons,not_or] at hk
   cases i with
   | zero =>
    refine ⟨?_,fun x hx=>?_⟩
    ·simp only [List.set_cons_zero,List.getElem_cons_zero,List.cons_append,List.nodup_cons,List.mem_append,List.mem_singleton,not_or]
     refine ⟨⟨hk.2,hk.1⟩,?_⟩
     rw [List.nodup_append]
     exact ⟨hn.2,by simp,fun a ha b hb=>by rw [List.mem_singleton.1 hb];intro e;subst e;exact hn.1 ha⟩
    ·simp at hx
     rcases hx with rfl | hx
     ·exact .inl rfl
     ·exact .inr (by simp [hx])
   | succ i =>
    have hi':i<L.length:=by simpa using hi
    obtain ⟨h1,h2⟩:=ih i k hn.2 hk.2 hi'
    refine ⟨?_,fun x hx=>?_⟩
    ·simp only [List.set_cons_succ,List.getElem_cons_succ,List.cons_append,List.nodup_cons,List.mem_append,List.mem_singleton,not_or]
     refine ⟨⟨fun h=>?_,fun e=>?_⟩,h1⟩
     ·rcases h2 y h with e | h
      ·exact hk.1 e.symm
      ·exact hn.1 h
     ·exact hn.1 (e▸List.getElem_mem hi')
    ·simp at hx
     rcases hx with rfl | hx
     ·exact .inr (by simp)
     ·rcases h2 x hx with e | h
      ·exact .inl e
      ·exact .inr (by simp [h])
 exact (key L i k hn hk hi).1
attribute [local irreducible] aws awp aw1 Og Om Oc Oa Ogd Ov Ot awd Zb awh Xb Ogh Ohd awl Ogl Ohl awv Ogv Ohv Wb Vb QFn Ub QRo QBe ACode AYield
theorem Vbx (σ:Za) (d:Nat) (l:List UInt8) (a:Nat) (c lo hi:Int) (h:σ[d]? = some (Xd l a c)) (ha:a≤l.length) (hl:l.length≤9223372036854775807) (h0:-1000≤lo) (h1:lo≤hi) (h2:hi≤2^30) :
  ACalls Tryz.prog 45 [.ptr d 0,.int .i64 lo,.int .i64 hi] σ (fun v σ'=>∃ (n:Int) (a':Nat) (c':Int),v=.int .i64 n∧lo≤n∧n≤hi∧a'≤l.length∧σ'=σ.set d (Xd l a' c')):=by
 refine Yb Tryz.func45 rfl (Va Tryz.func45 (by decide) rfl) ?_
 have hx:=w64 (n:=hi - lo) (by omega) (by omega)
 simp [Tryz.ntmps45,hx]
 refine StA.of ((Wcd σ d l a c (hi - lo) h ha hl (by omega) (by omega)).mono ?_)
 rintro v σ' ⟨n,a',c',rfl,h0,h1,ha',rfl⟩
 have hx2:=w64 (n:=lo+n) (by omega) (by omega)
 simp [hx2]
 exact ⟨by omega,by omega,a',ha',c',rfl⟩
def Ya (l:List Int):List AV:=l.map fun x=>AV.int .i64 x
end Ab
namespace Ab
open Go Go.RowKit Go.Proofs
attribute [local irreducible] aws awp aw1 Og Om Oc Oa Ogd Ov Ot awd Zb awh Xb Ogh Ohd awl Ogl Ohl awv Ogv Ohv Wb Vb QFn Ub QRo QBe ACode AYield
set_option maxHeartbeats 2000000 in
theorem Xd0 (σ:Za) (d:Nat) (l:List UInt8) (a:Nat) (c:Int) (h:σ[d]? = some (Xd l a c)) (ha:a≤l.length) (hl:l.length≤9223372036854775807) :
  ∃ (n:Int) (a':Nat) (c':Int),(∀ Post:AV→Za→Prop,Post (.int .i64 n) (σ.set d (Xd l a' c'))→ACalls Tryz.prog 131 [.ptr d 0] σ Post)∧0≤n∧n<2^32∧a'≤l.length:=by
 have hd:=(Qzs.1 h).1
 have hs:∀ X:AObj,(σ.set d X)[d]? = some X:=fun X=>by simp [hd]
 unfold Xd at h
 by_cases he:a=l.length
 ·subst he
  by_cases h0:l.length=0
  ·have h0':(l.length:Int)=0:=by omega
   obtain rfl:=List.eq_nil_of_length_eq_zero h0
   refine ⟨?n1,0,?c1,fun Post hP=>?walk1,?b11,?b21,?b31⟩
   case walk1 =>
    refine Yb Tryz.func131 rfl (Va Tryz.func131 (by decide) rfl) ?_
    simp [Tryz.ntmps131]
    refine Zj mixed (by kernel_rfl) ?_
    simp [h,hs,Wn]
    exact hP
   ·exact (Xw _).1
   ·exact (Xw _).2
   ·simp
  ·have h0':(0:Int)<(l.length:Int):=by omega
   have h0'':0<l.length:=by omega
   refine ⟨?n2,1,?c2,fun Post hP=>?walk2,?b12,?b22,?b32⟩
   case walk2 =>
    refine Yb Tryz.func131 rfl (Va Tryz.func131 (by decide) rfl) ?_
    simp [Tryz.ntmps131]
    refine Zj mixed (by kernel_rfl) ?_
    simp [h,hs,Wn,h0',h0'']
    refine Zj mixed (by kernel_rfl) ?_
    have w1:IntKind.i64.wrap 1=1:=by decide
    simp [h,hs,Wn,h0',h0'',w1]
    exact hP
   ·exact (Xw _).1
   ·exact (Xw _).2
   ·omega
 ·have he':¬ (a:Int)=(l.length:Int):=by omega
  have h0':(0:Int)<(l.length:Int):=by omega
  have hlt:a<l.length:=by omega
  have hlt':(a:Int)<(l.length:Int):=by omega
  have hx:=w64 (n:=(a:Int)+1) (by omega) (by omega)
  have h0n:0<l.length:=by omega
  refine ⟨?n,a+1,?c,fun Post hP=>?walk,?b1,?b2,?b3⟩
  case walk =>
   refine Yb Tryz.func131 rfl (Va Tryz.func131 (by decide) rfl) ?_
   simp [Tryz.ntmps131]
   refine Zj mixed (by kernel_rfl) ?_
   simp [h,hs,Wn,he,he',h0',h0n,hlt]
   refine Zj mixed (by kernel_rfl) ?_
   simp [h,hs,Wn,he,he',h0',h0n,hlt,hlt',hx]
   exact hP
  ·exact (Xw _).1
  ·exact (Xw _).2
  ·omega
theorem Ybv (σ:Za) (d:Nat) (l:List UInt8) (a:Nat) (c m:Int) (h:σ[d]? = some (Xd l a c)) (ha:a≤l.length) (hl:l.length≤9223372036854775807) (hm:0≤m) (hm2:m≤2^40) :
  ∃ (n:Int) (a':Nat) (c':Int),ACalls Tryz.prog 50 [.ptr d 0,.int .i64 m] σ (fun v s=>v=.int .i64 n∧s=σ.set d (Xd l a' c'))∧0≤n∧n≤m∧a'≤l.length:=by
 obtain ⟨n,a',c',hr,h0,h1,ha'⟩:=Xd0 σ d l a c h ha hl
 have h3:=Int.tmod_lt_of_pos n (show 0<m+1 by omega)
 refine ⟨n.tmod (m+1),a',c',?_,Int.tmod_nonneg _ h0,by omega,ha'⟩
 refine Yb Tryz.func50 rfl (Va Tryz.func50 (by decide) rfl) ?_
 simp [Tryz.ntmps50]
 refine StA.of (hr _ ?_)
 have hx:=w64 (n:=m+1) (by omega) (by omega)
 have hne:¬ m+1=0:=by omega
 have hif:(if 1<m+1 then m+1 else 1)=m+1:=by split<;>omega
 have hw:=w64 (n:=n.tmod (m+1)) (by have:=Int.tmod_nonneg (m+1) h0;omega) (by omega)
 simp [hx,hne]
 rw [hif,if_neg hne]
 simp only [Option.map_some,Zn]
 exact ⟨trivial,trivial⟩
end Ab

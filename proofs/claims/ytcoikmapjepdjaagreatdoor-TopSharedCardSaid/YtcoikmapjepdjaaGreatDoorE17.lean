/-
  Texts packed for a claim.
-/
import Derived.Test.YtcoikmapjepdjaaGreatDoorE00
import Derived.Test.YtcoikmapjepdjaaGreatDoorE09
import Derived.Test.YtcoikmapjepdjaaGreatDoorE16
import Derived.Test.YtcoikmapjepdjaaGreatDoorE12
set_option linter.all false
namespace Ab
open Go Go.RowKit
variable [Mode]
variable {P:Program}
def Xaq (ops:List Oper) (H:List Nat) (W:List (Nat × Nat)):Bool :=
 let ms:=Vh ops
 (List.range ops.length).all fun i=>H.contains i||((ops[i]?).map isLit).getD false||(List.range (H.length+1)).all fun m =>
  (m == H.countP (fun h=>decide (h<i)))||W.contains (i,m) ||
   H.zipIdx.any fun (h,p)=>(bef ms i h&&!decide (p<m))||(bef ms h i&&!decide (m≤p))
theorem Vdd {o:Oper} {v:AV} {s:Za} {env:Env} (h:((some o).map isLit).getD false=true):¬ Yi P o v s env s:=by
 have h:isLit o=true:=h
 intro hf
 unfold Yi aw1 at hf
 split at hf
 ·rename_i f args ts hop
  unfold isLit at h
  rw [hop] at h
  cases h
 ·split at hf
  ·rename_i v' s' hop
   exact Yg2 h hop hf.2
  ·exact hf
theorem Done.drawsL {ops:List Oper} {H:List Nat} {W:List (Nat × Nat)} {env0:Env} {σ:Za} {rs:List AV} {es:List Env} {ss:List Za} (hok:Xo ops H=true) (hlv:Xaq ops H W=true) (hs0:ss[0]? = some σ)
  (hd:Done P ops H env0 ops.length rs es ss) (hW:∀ x∈W,match ops[x.1]?,rs[x.1]?,es[x.1]?,ss[x.2]? with
   | some o,some v,some e,some s=>We ops e.t o.guard=some false∨Yi P o v s e s
   | _,_,_,_=>False):Draws P ops H env0 σ (rOf rs) (sOf ss):=by
 obtain ⟨_,_,hHlt,hHord⟩:=Vak hok
 refine ⟨by simp [sOf,hs0],fun i o ho hi=>?_,fun p i o hp ho=>?_⟩
 ·have hlt:=(Qzs.1 ho).1
  have hcc:H.contains i=false:=by simpa using hi
  have hc:=Vaj hHord i
  rw [hcc] at hc
  simp only [Bool.false_eq_true,if_false,Nat.add_zero] at hc
  rcases hd.one i o hlt ho with ⟨h1,h2⟩ | ⟨h1,h2,_⟩
  ·rcases h2 with ⟨_,h2⟩ | h2
   ·exact .inl ⟨h1,.inl h2⟩
   refine .inl ⟨h1,.inr fun m hm hall=>?_⟩
   rw [hc] at h2
   by_cases e:m=H.countP (fun h=>decide (h<i))
   ·subst e;exact h2
   ·unfold Xaq at hlv
    simp only [List.all_eq_true,List.mem_range,Bool.or_eq_true] at hlv
    rcases hlv i hlt with (h | h) | h
    ·rw [hcc] at h;cases h
    ·rw [ho] at h
     exact absurd h2 (Vdd h)
    ·rcases h m (by omega) with (h | h) | h
     ·simp at h;exact absurd h e
     ·have:=hW (i,m) (by simpa using h)
      simp only at this
      rw [ho] at this
      have hr:=Qze (show i<rs.length by rw [hd.rl];exact hlt)
      have he:=Qze (show i<es.length by rw [hd.el];exact hlt)
      have hsl:=hd.sl
      have hcn:H.countP (fun h=>decide (h<ops.length))=H.length:=by
       rw [List.countP_eq_length]
       intro a ha
       obtain ⟨q,hq⟩:=List.mem_iff_getElem?.1 ha
       simpa using hHlt q a hq
      have hs:=Qze (show m<ss.length by omega)
      rw [hr,he,hs] at this
      simp only at this
      have e1:=hd.env i _ he
      rcases this with this | this
      ·rw [e1,h1] at this;cases this
      ·rw [e1] at this
       have e2:rs[i]'(by rw [hd.rl];exact hlt)=rOf rs i:=by simp [rOf,hr]
       have e3:ss[m]'(by omega)=sOf ss m:=by simp [sOf,hs]
       rw [e2,e3] at this
       exact this
     ·rw [List.any_eq_true] at h
      obtain ⟨⟨h',p⟩,hmem,hx⟩:=h
      have hp:=List.mem_zipIdx_iff_getElem?.1 hmem
      simp only at hp hx
      have hpp:H[p]? = some h':=by simpa using hp
      obtain ⟨a1,a2⟩:=hall p h' hpp
      simp only [Bool.or_eq_true,Bool.and_eq_true,Bool.not_eq_true',decide_eq_false_iff_not] at hx
      rcases hx with ⟨b1,b2⟩ | ⟨b1,b2⟩
      ·exact absurd (a1 b1) b2
      ·exact absurd (a2 b1) b2
  ·exact .inr ⟨h1,h2⟩
 ·have hlt:=(Qzs.1 ho).1
  have hcp:H.countP (fun h=>decide (h<i))=p:=by
   have hpl:=(Qzs.1 hp).1
   have e1:(H.take p).countP (fun h=>decide (h<i))=p:=by
    rw [List.countP_eq_length.2]
    ·simp;omega
    ·intro a ha
     obtain ⟨q,hq⟩:=List.mem_iff_getElem?.1 ha
     have hql:=(Qzs.1 hq).1
     simp at hql
     rw [List.getElem?_take_of_lt (by omega)] at hq
     simpa using hHord q p a i hq hp (by omega)
   have e2:(H.drop p).countP (fun h=>decide (h<i))=0:=by
    rw [List.countP_eq_zero]
    intro a ha
    obtain ⟨q,hq⟩:=List.mem_iff_getElem?.1 ha
    rw [List.getElem?_drop] at hq
    rcases Nat.eq_zero_or_pos q with h0 | h0
    ·subst h0;simp at hq;rw [hp] at hq;simp at hq;subst hq;simp
    ·have:=hHord p (p+q) i a hp hq (by omega)
     simp;omega
   rw [← List.take_append_drop p H,List.countP_append,e1,e2,Nat.add_zero]
  have hc:=Vaj hHord i
  have hci:H.contains i=true:=by simpa using mem_of_getElem? hp
  rw [hci] at hc
  simp only [if_true] at hc
  rw [hcp] at hc
  rcases hd.one i o hlt ho with ⟨h1,h2⟩ | ⟨h1,h2,h3⟩
  ·rcases h2 with ⟨h2,_⟩ | h2
   ·rw [hci] at h2;cases h2
   rw [hc,hcp] at h2;exact .inl ⟨h1,h2⟩
  ·rw [hc,hcp] at h3;exact .inr ⟨h1,h2,h3⟩
theorem Ycs {ops:List Oper} {H:List Nat} {W:List (Nat × Nat)} {K:Env→Za→Prop} {env0:Env} {σ:Za} (hok:Xo ops H=true) (hlv:Xaq ops H W=true):∀ (rest dn:List Oper) (i:Nat) (s:Za) (rs:List AV) (es:List Env) (ss:List Za),ops=dn++rest→dn.length=i →
  Done P ops H env0 i rs es ss→ss[0]? = some σ→sOf ss (H.countP (fun h=>decide (h<i)))=s→adr P ops H W K rest i (Va ops (rOf rs) env0 tr i) s rs es ss →
  ∃ (r:Nat→AV) (S:Nat→Za),Draws P ops H env0 σ r S∧K (Va ops r env0 tr ops.length) (S H.length):=by
 obtain ⟨_,_,hHlt,hHord⟩:=Vak hok
 intro rest
 induction rest with
 | nil =>
  intro dn i s rs es ss h1 h2 hd hs0 hs h
  simp at h1
  subst h1
  subst h2
  obtain ⟨hW,hK⟩:=h
  have hcn:H.countP (fun h=>decide (h<ops.length))=H.length:=by
   rw [List.countP_eq_length]
   intro a ha
   obtain ⟨q,hq⟩:=List.mem_iff_getElem?.1 ha
   simpa using hHlt q a hq
  refine ⟨rOf rs,sOf ss,hd.drawsL hok hlv hs0 hW,?_⟩
  rw [hcn] at hs
  rw [hs]
  exact hK
 | cons o rest ih =>
  intro dn i s rs es ss h1 h2 hd hs0 hs h
  have ho:ops[i]? = some o:=by rw [h1,← h2];simp
  have hc:=Vaj hHord i
  have hrl:=hd.rl
  have hsl:=hd.sl
  have next:∀ (v:AV) (ss':List Za) (s':Za),(if H.contains i then ss'=ss++[s'] else ss'=ss∧s'=s) →
    ((We ops (Va ops (rOf rs) env0 tr i).t o.guard=some true∧((H.contains i=false∧Lit P o v (Va ops (rOf rs) env0 tr i))∨Yi P o v s' (Va ops (rOf rs) env0 tr i) s)) ∨
      (We ops (Va ops (rOf rs) env0 tr i).t o.guard=some false∧v=.tup []∧s'=s)) →
    adr P ops H W K rest (i+1) ((Va ops (rOf rs) env0 tr i).put o.dst v) s' (rs++[v]) (es++[Va ops (rOf rs) env0 tr i]) ss' →
    ∃ (r:Nat→AV) (S:Nat→Za),Draws P ops H env0 σ r S∧K (Va ops r env0 tr ops.length) (S H.length):=by
   intro v ss' s' hss hw hrest
   have hs1:sOf ss' (H.countP (fun h=>decide (h<i)))=s:=by
    rw [← hs]
    split at hss
    ·rw [hss]
     simp only [sOf,List.getD_eq_getElem?_getD]
     rw [Qzl (by omega)]
    ·rw [hss.1]
   have hs2:sOf ss' (H.countP (fun h=>decide (h<i+1)))=s':=by
    rw [hc]
    split at hss
    ·rename_i hcc
     rw [hss,if_pos hcc]
     simp only [sOf,List.getD_eq_getElem?_getD]
     rw [Qzr (by omega),hsl]
     simp
    ·rename_i hcc
     rw [if_neg hcc,Nat.add_zero,hss.1,hs,hss.2]
   have hd':=hd.step (v:=v) (ss':=ss') hHord ho (by
    split
    ·rename_i hcc;rw [if_pos hcc] at hss;exact ⟨s',hss⟩
    ·rename_i hcc;rw [if_neg hcc] at hss;exact hss.1) (by rw [hs1,hs2];exact hw)
   have henv:Va ops (rOf (rs++[v])) env0 tr (i+1)=(Va ops (rOf rs) env0 tr i).put o.dst v:=by
    simp only [Va,ho,tr,if_true]
    rw [Vau i (by omega),Option.bind_some]
    congr 1
    simp only [rOf,List.getD_eq_getElem?_getD]
    rw [Qzr (by omega),hrl]
    simp
   refine ih (dn++[o]) (i+1) s' _ _ ss' (by simp [h1]) (by simp [h2]) hd' ?_ hs2 ?_
   ·split at hss
    ·rw [hss,Qzl (by omega)];exact hs0
    ·rw [hss.1];exact hs0
   ·rw [henv];exact hrest
  unfold adr at h
  split at h
  ·rename_i hw
   rcases h with ⟨v,hlit,hf,hr⟩ | h
   ·have hcc:H.contains i=false:=by
     rw [Bool.and_eq_true,Bool.not_eq_true'] at hlit
     exact hlit.2
    exact next v _ s (by rw [hcc];exact ⟨rfl,rfl⟩) (.inl ⟨hw,.inl ⟨hcc,hf⟩⟩) hr
   split at h
   ·split at h
    ·rename_i hcc
     obtain ⟨v,s',hf,hr⟩:=h
     exact next v _ s' (by rw [if_pos hcc]) (.inl ⟨hw,.inr hf⟩) hr
    ·rename_i hcc
     obtain ⟨v,hf,hr⟩:=h
     exact next v _ s (by rw [if_neg hcc];exact ⟨rfl,rfl⟩) (.inl ⟨hw,.inr hf⟩) hr
   ·rename_i hcall
    split at h
    ·rename_i v s' hop
     have hf:=Va3 (by simpa using hcall) hop
     split at h
     ·rename_i hcc
      exact next v _ s' (by rw [if_pos hcc]) (.inl ⟨hw,.inr hf⟩) h
     ·rename_i hcc
      obtain ⟨rfl,hr⟩:=h
      exact next v _ s' (by rw [if_neg hcc];exact ⟨rfl,rfl⟩) (.inl ⟨hw,.inr hf⟩) hr
    ·cases h
  ·rename_i hw
   split at h
   ·rename_i hcc
    exact next (.tup []) _ s (by rw [if_pos hcc]) (.inr ⟨hw,rfl,rfl⟩) h
   ·rename_i hcc
    exact next (.tup []) _ s (by rw [if_neg hcc];exact ⟨rfl,rfl⟩) (.inr ⟨hw,rfl,rfl⟩) h
  ·cases h
theorem Xfq {rd:Option Nat} {id:Nat} {opsA:Array Oper} {Q:Exit→Env→Za→Prop} {env:Env} {σ:Za} (H:List Nat) (W:List (Nat × Nat)) (hm:P.follows .mixedOrders=true) (hok:(Xo opsA.toList H&&Xaq opsA.toList H W)=true)
  (h:adr P opsA.toList H W (Q .normal) opsA.toList 0 env σ [] [] [σ]):ACode P rd (.region id opsA true) Q env σ:=by
 rw [Bool.and_eq_true] at hok
 obtain ⟨r,S,hd,hK⟩:=Ycs (P:=P) (env0:=env) (σ:=σ) hok.1 hok.2 opsA.toList [] 0 σ [] [] [σ] rfl rfl ⟨rfl,rfl,by simp,fun j e h=>by simp at h,fun j o h=>by omega⟩ rfl (by simp [sOf]) h
 exact Vca hm H r S hok.1 hd (by simpa using hK)
theorem Xp {rd:Option Nat} {id:Nat} {opsA:Array Oper} {Q:Exit→Env→Za→Prop} {env:Env} {σ:Za} (H:List Nat) (W:List (Nat × Nat)) (hm:P.follows .mixedOrders=true)
  (hok:(Xo opsA.toList H&&Xaq opsA.toList H W)=true) (hW:(W.all fun x=>decide (x.1<opsA.toList.length))=true)
  (h:awv P opsA.toList H W (Q .normal) opsA.toList 0 env σ [σ] []):@StC _ P rd ⟨.region id opsA true⟩ ⟨Q⟩ env σ :=
 Xfq H W hm hok (Zb9 (fun x hx=>by simpa using List.all_eq_true.1 hW x hx) opsA.toList [] _ _ _ _ _ _ rfl rfl rfl (fun x _ hlt=>by simp at hlt) h)
end Ab
namespace Oyez
variable {α:Type} [DecidableEq α]
def Wa7 (a:α) (f:List α→Nat):List α→Nat
 | []=>0
 | b::y=>if a=b then max (max (f (b::y)) (Wa7 a f y)) (f y+1) else max (f (b::y)) (Wa7 a f y)
def lcs:List α→List α→Nat
 | [],_=>0
 | a::x,y=>Wa7 a (lcs x) y
inductive Far:Nat→List α→List α→Prop
 | nil:Far 0 [] []
 | keep {n x y} (a:α):Far n x y→Far n (a::x) (a::y)
 | del {n x y} (a:α):Far n x y→Far (n+1) (a::x) y
 | ins {n x y} (b:α):Far n x y→Far (n+1) x (b::y)
theorem Far.symm {n:Nat} {x y:List α} (h:Far n x y):Far n y x:=by
 induction h with
 | nil=>exact .nil
 | keep a _ ih=>exact .keep a ih
 | del a _ ih=>exact .ins a ih
 | ins b _ ih=>exact .del b ih
theorem Far.eq {x y:List α} (h:Far 0 x y):x=y:=by
 generalize hn:0=n at h
 induction h with
 | nil=>rfl
 | keep a _ ih=>rw [ih hn]
 | del a _ ih=>omega
 | ins b _ ih=>omega
theorem Far.trans {n:Nat} {x y:List α} (h:Far n x y):∀ {m:Nat} {z:List α},Far m y z→∃ k,k≤n+m∧Far k x z:=by
 induction h with
 | nil=>exact fun h=>⟨_,by omega,h⟩
 | @keep n x y a h ih =>
  intro m z h'
  generalize hy:a::y=y' at h'
  induction h' with
  | nil=>cases hy
  | keep b h' _=>cases hy;obtain ⟨k,hk,hf⟩:=ih h';exact ⟨k,hk,.keep _ hf⟩
  | del b h' _=>cases hy;obtain ⟨k,hk,hf⟩:=ih h';exact ⟨k+1,by omega,.del _ hf⟩
  | ins b h' ih'=>obtain ⟨k,hk,hf⟩:=ih' hy;exact ⟨k+1,by omega,.ins _ hf⟩
 | @del n x y a h ih =>
  intro m z h'
  obtain ⟨k,hk,hf⟩:=ih h'
  exact ⟨k+1,by omega,.del _ hf⟩
 | @ins n x y b h ih =>
  intro m z h'
  generalize hy:b::y=y' at h'
  induction h' with
  | nil=>cases hy
  | keep c h' _=>cases hy;obtain ⟨k,hk,hf⟩:=ih h';exact ⟨k+1,by omega,.ins _ hf⟩
  | del c h' _=>cases hy;obtain ⟨k,hk,hf⟩:=ih h';exact ⟨k,by omega,hf⟩
  | ins c h' ih'=>obtain ⟨k,hk,hf⟩:=ih' hy;exact ⟨k+1,by omega,.ins _ hf⟩
def Win (x y:List α):Nat:=x.length+y.length - 2*lcs x y
end Oyez
namespace Ab
open Go Go.RowKit Go.Proofs
def Wge (l:List Int):AV:=.pl 1 (l.map fun x=>.int .i64 x)
def Xis (l:List (List Int)):AV:=.pl 1 (l.map fun x=>Wge x)
def Wz {α:Type} (l:List α) (p:α→Bool):Int:=match l.findIdx? p with | some i=>i | none=>-1
theorem Whw {α:Type} {l:List α} {p:α→Bool} {i:Nat} (h:i<l.length) (hd:∀ x∈l.take i,p x=false) (hx:p l[i]=false):∀ x∈l.take (i+1),p x=false:=by
 intro x hm
 rw [Qzt h] at hm
 rcases List.mem_append.1 hm with hm | hm
 ·exact hd x hm
 ·rw [List.mem_singleton.1 hm];exact hx
theorem Udi {α:Type} {l:List α} {p:α→Bool} {i:Nat} (h:i<l.length) (hd:∀ x∈l.take i,p x=false) (hx:p l[i]=true):Wz l p=i:=by
 unfold Wz
 have:l.findIdx? p=some i:=by
  rw [List.findIdx?_eq_some_iff_getElem]
  refine ⟨h,hx,fun j hj=>?_⟩
  have:=hd l[j] (by rw [List.mem_iff_getElem];exact ⟨j,by simp;omega,by simp⟩)
  simp [this]
 rw [this]
theorem Vdq {α:Type} {l:List α} {p:α→Bool} (hd:∀ x∈l,p x=false):Wz l p=-1:=by
 unfold Wz
 have:l.findIdx? p=none:=by rw [List.findIdx?_eq_none_iff];exact hd
 rw [this]
theorem Zfq {α:Type} (l:List α) (p:α→Bool):decide (0≤Wz l p)=l.any p:=by
 unfold Wz
 rw [← List.findIdx?_isSome]
 cases l.findIdx? p<;>simp
attribute [local irreducible] aws awp aw1 Og Om Oc Oa Ogd Ov Ot awd Ua awh Xb Ogh Ohd awl Ogl Ohl awv Ogv Ohv Wb Vb QFn Zc QRo QBe ACode AYield
def Yik (w:Int):Bool:=decide (0≤w)&&decide (w≤9)
abbrev R1 (l:List Int):AV:=.pl 1 (l.map fun y=>AV.int .i64 y)
def grid (f:Nat→Nat→Int):List AV:=(List.range 49).map fun n=>AV.int .i64 (f (n / 7) (n % 7))
def Wbn (a b:List Int) (i k:Nat):Int:=Oyez.lcs (a.drop i) (b.drop k)
def Wiw (a b:List Int) (i k:Int):Nat→Nat→Int:=fun i' k'=>if i<i'∨((i':Int)=i∧k<k') then Wbn a b i' k' else 0
def etr (a b:List Int):Nat→Nat→Nat→List Int
 | 0,_,_=>[]
 | n+1,i,k=>if h:i<a.length∧k<b.length then (if a[i]=b[k] then a[i]::etr a b n (i+1) (k+1) else if Wbn a b i (k+1)≤Wbn a b (i+1) k then etr a b n (i+1) k else etr a b n i (k+1)) else []
theorem Acc.under {σ g:Za} {X:AObj} {k:Nat} {v:AV} {l:List AV} {o:Option Nat} (h:Acc (σ++[X]) g k v l o):Acc σ (X::g) k v l (o.map (·+1)):=⟨h.len,by
 have hv:=h.val
 cases o with
 | none=>exact hv
 | some j =>
  simp only [Option.map_some,List.length_append,List.length_singleton,List.getElem?_cons_succ] at hv ⊢
  rw [hv.1,show σ.length+1+j=σ.length+(j+1) from by omega]
  exact ⟨rfl,hv.2⟩⟩
end Ab
namespace Ab
open Go Go.RowKit Go.Proofs
structure Cr where
 hour:Int
 stand:Int
 notice:Int
structure Bk where
 houses:Int
 notices:Int
 hears:List (List (List Int))
 reads:List Int
 cries:List Cr
def Vfm (b:Bk):AV:=.agg [.int .i64 b.houses,.int .i64 b.notices,.pl 1 (b.hears.map fun x=>AV.pl 1 (x.map fun z=>AV.pl 1 (z.map fun y=>AV.int .i64 y))),.pl 1 (b.reads.map fun x=>AV.int .i64 x),.pl 3 (b.cries.map fun x=>AV.agg [.int .i64 x.hour,.int .i64 x.stand,.int .i64 x.notice])]
def Wh8 (n lo hi:Int):Bool:=decide (lo≤n)&&decide (n≤hi)
attribute [local irreducible] aws awp aw1 Og Om Oc Oa Ogd Ov Ot awd Ua awh Xb Ogh Ohd awl Ogl Ohl awv Ogv Ohv Wb Vb QFn Zc QRo QBe ACode AYield
theorem Zeq (l:List Int) (n:Int) (hl:l.length≤2^40):APure Tryz.prog 129 [.pl 1 (l.map fun x=>AV.int .i64 x),.int .i64 n] (.int .i64 (Wz l fun x=>decide (n=x))):=by
 intro σ
 refine Yb Tryz.func129 rfl (Zb Tryz.func129 (by decide) rfl) ?_
 simp [Tryz.ntmps129]
 refine Wd (fun env σ'=>∃ (u:List AV) (i:Nat),env={ t:=u }∧u.length=19∧tg u 0=.pl 1 (l.map fun x=>AV.int .i64 x)∧tg u 1=.int .i64 n∧tg u 7=.int .i64 l.length∧tg u 8=.int .i64 i∧σ'=σ∧i≤l.length∧∀ x∈l.take i,(decide (n=x))=false)
  (fun env _=>match tg env.t 8 with | .int _ i=>l.length - i.toNat | _=>0) ⟨_,0,rfl,by simp,by simp,by simp,by simp,by simp,rfl,by omega,fun x hx=>by simp at hx⟩ ?_
 rintro env σ' ⟨u,i,rfl,hl0,g0,g1,g7,g8,rfl,hi,hd⟩
 rcases Qzn i l.length with hlt | hge
 ·have hlt':(i:Int)<(l.length:Int):=by omega
  have hw1:=w64 (n:=(i:Int)+1) (by omega) (by omega)
  by_cases hx:n=l[i]
  ·have h2:=Udi (p:=fun x=>decide (n=x)) hlt hd (by simp [hx])
   simp [hl0,g0,g1,g7,g8,hlt',hlt,hx]
   rw [hx] at h2
   simpa using h2.symm
  ·simp [hl0,g0,g1,g7,g8,hlt',hlt,hx,hw1]
   exact ⟨⟨i+1,by simp,hlt,fun x hm=>by simpa using Whw hlt hd (by simp [hx]) x hm⟩,by omega⟩
 ·have hge':¬ (i:Int)<(l.length:Int):=by omega
  rw [List.take_of_length_le hge] at hd
  simp [hl0,g0,g1,g7,g8,hge']
  exact (Vdq (p:=fun x=>decide (n=x)) hd).symm
theorem Uau (l:List Int) (n:Int) (hl:l.length≤2^40):APure Tryz.prog 48 [.pl 1 (l.map fun x=>AV.int .i64 x),.int .i64 n] (.bool (decide (n∈l))):=by
 intro σ
 refine Yb Tryz.func48 rfl (Zb Tryz.func48 (by decide) rfl) ?_
 simp [Tryz.ntmps48]
 refine (Zeq l n hl).use ?_
 have:=Zfq l fun x=>decide (n=x)
 have h2:(0≤Wz l fun x=>decide (n=x))↔n∈l:=by
  have h3:(decide (0≤Wz l fun x=>decide (n=x))=true)↔((l.any fun x=>decide (n=x))=true):=by rw [this]
  simpa using h3
 simp [h2]
def Wds (b:Bk) (l:List Int):Prop:=l.Nodup∧∀ x∈l,0≤x∧x≤b.houses - 1
end Ab

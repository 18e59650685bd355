/-
  Texts packed for a claim.
-/
import Derived.Test.YtcoikmapjepdjaaGreatDoorO00
import Derived.Test.YtcoikmapjepdjaaGreatDoorO10
import Derived.Test.YtcoikmapjepdjaaGreatDoorO17
import Derived.Test.YtcoikmapjepdjaaGreatDoorO15
import Derived.Test.YtcoikmapjepdjaaGreatDoorO16
set_option linter.all false
namespace Oyez
variable {α:Type} [DecidableEq α]
def Vbg (a:α) (f:List α→Nat):List α→Nat
 | []=>0
 | b::y=>if a=b then max (max (f (b::y)) (Vbg a f y)) (f y+1) else max (f (b::y)) (Vbg a f y)
def lcs:List α→List α→Nat
 | [],_=>0
 | a::x,y=>Vbg a (lcs x) y
inductive Far:Nat→List α→List α→Prop
 | nil:Far 0 [] []
 | keep {n x y} (a:α):Far n x y→Far n (a::x) (a::y)
 | del {n x y} (a:α):Far n x y→Far (n+1) (a::x) y
 | ins {n x y} (b:α):Far n x y→Far (n+1) x (b::y)
theorem Far.symm {n:Nat} {x y:List α} (h:Far n x y):Far n y x:=by
 induction h with
 | nil=>exact .nil
 | keep a _ ih=>exact .keep a ih
 | del a _ ih=>exact .ins a ih
 | ins b _ ih=>exact .del b ih
theorem Far.eq {x y:List α} (h:Far 0 x y):x=y:=by
 generalize hn:0=n at h
 induction h with
 | nil=>rfl
 | keep a _ ih=>rw [ih hn]
 | del a _ ih=>omega
 | ins b _ ih=>omega
theorem Far.trans {n:Nat} {x y:List α} (h:Far n x y):∀ {m:Nat} {z:List α},Far m y z→∃ k,k≤n+m∧Far k x z:=by
 induction h with
 | nil=>exact fun h=>⟨_,by omega,h⟩
 | @keep n x y a h ih =>
  intro m z h'
  generalize hy:a::y=y' at h'
  induction h' with
  | nil=>cases hy
  | keep b h' _=>cases hy;obtain ⟨k,hk,hf⟩:=ih h';exact ⟨k,hk,.keep _ hf⟩
  | del b h' _=>cases hy;obtain ⟨k,hk,hf⟩:=ih h';exact ⟨k+1,by omega,.del _ hf⟩
  | ins b h' ih'=>obtain ⟨k,hk,hf⟩:=ih' hy;exact ⟨k+1,by omega,.ins _ hf⟩
 | @del n x y a h ih =>
  intro m z h'
  obtain ⟨k,hk,hf⟩:=ih h'
  exact ⟨k+1,by omega,.del _ hf⟩
 | @ins n x y b h ih =>
  intro m z h'
  generalize hy:b::y=y' at h'
  induction h' with
  | nil=>cases hy
  | keep c h' _=>cases hy;obtain ⟨k,hk,hf⟩:=ih h';exact ⟨k+1,by omega,.ins _ hf⟩
  | del c h' _=>cases hy;obtain ⟨k,hk,hf⟩:=ih h';exact ⟨k,by omega,hf⟩
  | ins c h' ih'=>obtain ⟨k,hk,hf⟩:=ih' hy;exact ⟨k+1,by omega,.ins _ hf⟩
def Zio (x y:List α):Nat:=x.length+y.length - 2*lcs x y
end Oyez
namespace Ab
open Go Go.RowKit Go.Proofs
def Wfb (l:List Int):AV:=.pl 1 (l.map fun x=>.int .i64 x)
def Zi6 (l:List (List Int)):AV:=.pl 1 (l.map fun x=>Wfb x)
def Vv {α:Type} (l:List α) (p:α→Bool):Int:=match l.findIdx? p with | some i=>i | none=>-1
theorem Xaz {α:Type} {l:List α} {p:α→Bool} {i:Nat} (h:i<l.length) (hd:∀ x∈l.take i,p x=false) (hx:p l[i]=false):∀ x∈l.take (i+1),p x=false:=by
 intro x hm
 rw [Qzt h] at hm
 rcases List.mem_append.1 hm with hm | hm
 ·exact hd x hm
 ·rw [List.mem_singleton.1 hm];exact hx
theorem War {α:Type} {l:List α} {p:α→Bool} {i:Nat} (h:i<l.length) (hd:∀ x∈l.take i,p x=false) (hx:p l[i]=true):Vv l p=i:=by
 unfold Vv
 have:l.findIdx? p=some i:=by
  rw [List.findIdx?_eq_some_iff_getElem]
  refine ⟨h,hx,fun j hj=>?_⟩
  have:=hd l[j] (by rw [List.mem_iff_getElem];exact ⟨j,by simp;omega,by simp⟩)
  simp [this]
 rw [this]
theorem Uav {α:Type} {l:List α} {p:α→Bool} (hd:∀ x∈l,p x=false):Vv l p=-1:=by
 unfold Vv
 have:l.findIdx? p=none:=by rw [List.findIdx?_eq_none_iff];exact hd
 rw [this]
theorem Zav {α:Type} (l:List α) (p:α→Bool):decide (0≤Vv l p)=l.any p:=by
 unfold Vv
 rw [← List.findIdx?_isSome]
 cases l.findIdx? p<;>simp
theorem Ubs {α:Type} (l:List α) (p:α→Bool):(!(l.any fun x=>!p x))=l.all p:=by
 rw [List.all_eq_not_any_not]
attribute [local irreducible] aws awp aw1 Og Om Oc Oa Ogd Ov Ot awd Zb awh Wb Ogh Ohd awl Ogl Ohl awv Ogv Ohv Xb Vb QFn Ub QRo QBe ACode AYield
theorem Zew (l:List (Int)) (p:Int→Bool) (h:FuncId) (fs cs:List AV) (hl:l.length≤2^40) (σ:Za) (hc:∀ x∈l,ACalls Tryz.prog h (fs++[AV.int .i64 x]++cs) σ fun v s=>v=.bool (p x)∧s=σ) :
  ACalls Tryz.prog 152 [.pl 1 (l.map fun x=>AV.int .i64 x),.fn (.func h) fs cs] σ fun v s=>v=.int .i64 (Vv l p)∧s=σ:=by
 refine Yb Tryz.func152 rfl (Ua Tryz.func152 (by decide) rfl) ?_
 simp [Tryz.ntmps152]
 refine Xc (fun env σ'=>∃ (u:List AV) (i:Nat),env={ t:=u }∧u.length=19∧tg u 0=.pl 1 (l.map fun x=>AV.int .i64 x)∧tg u 1=.fn (.func h) fs cs∧tg u 7=.int .i64 l.length∧tg u 8=.int .i64 i∧σ'=σ∧i≤l.length∧∀ x∈l.take i,p x=false)
  (fun env _=>match tg env.t 8 with | .int _ i=>l.length - i.toNat | _=>0) ⟨_,0,rfl,by simp,by simp,by simp,by simp,by simp,rfl,by omega,fun x hx=>by simp at hx⟩ ?_
 rintro env σ' ⟨u,i,rfl,hl0,g0,g1,g7,g8,rfl,hi,hd⟩
 rcases Qzn i l.length with hlt | hge
 ·have hlt':(i:Int)<(l.length:Int):=by omega
  simp [hl0,g0,g1,g7,g8,hlt',hlt]
  have hci:=hc _ (List.getElem_mem hlt)
  simp only [List.append_assoc,List.cons_append,List.nil_append] at hci
  refine StA.of (hci.mono ?_)
  rintro v σ'' ⟨rfl,rfl⟩
  cases hx:p l[i] with
  | false =>
   have hw1:=w64 (n:=(i:Int)+1) (by omega) (by omega)
   simp [hl0,g0,g1,g7,g8,hw1]
   exact ⟨⟨i+1,by simp,hlt,Xaz hlt hd hx⟩,by omega⟩
  | true =>
   simp [hl0,g0,g1,g7,g8,War hlt hd hx]
 ·have hge':¬ (i:Int)<(l.length:Int):=by omega
  rw [List.take_of_length_le hge] at hd
  simp [hl0,g0,g1,g7,g8,hge',Uav hd]
theorem Wdy (l:List (Int)) (p:Int→Bool) (h:FuncId) (fs cs:List AV) (hl:l.length≤2^40) (σ:Za) (hc:∀ x∈l,ACalls Tryz.prog h (fs++[AV.int .i64 x]++cs) σ fun v s=>v=.bool (p x)∧s=σ) :
  ACalls Tryz.prog 184 [.pl 1 (l.map fun x=>AV.int .i64 x),.fn (.func h) fs cs] σ fun v s=>v=.bool (l.any p)∧s=σ:=by
 refine Yb Tryz.func184 rfl (Ua Tryz.func184 (by decide) rfl) ?_
 simp [Tryz.ntmps184]
 refine StA.of ((Zew l p h fs cs hl σ hc).mono ?_)
 rintro v σ' ⟨rfl,rfl⟩
 simp [Zav]
def Yio (w:Int):Bool:=decide (0≤w)&&decide (w≤9)
abbrev R1 (l:List Int):AV:=.pl 1 (l.map fun y=>AV.int .i64 y)
def grid (f:Nat→Nat→Int):List AV:=(List.range 49).map fun n=>AV.int .i64 (f (n / 7) (n % 7))
def Zbv (a b:List Int) (i k:Nat):Int:=Oyez.lcs (a.drop i) (b.drop k)
def Wir (a b:List Int) (i k:Int):Nat→Nat→Int:=fun i' k'=>if i<i'∨((i':Int)=i∧k<k') then Zbv a b i' k' else 0
def etr (a b:List Int):Nat→Nat→Nat→List Int
 | 0,_,_=>[]
 | n+1,i,k=>if h:i<a.length∧k<b.length then (if a[i]=b[k] then a[i]::etr a b n (i+1) (k+1) else if Zbv a b i (k+1)≤Zbv a b (i+1) k then etr a b n (i+1) k else etr a b n i (k+1)) else []
theorem Acc.under {σ g:Za} {X:AObj} {k:Nat} {v:AV} {l:List AV} {o:Option Nat} (h:Acc (σ++[X]) g k v l o):Acc σ (X::g) k v l (o.map (·+1)):=⟨h.len,by
 have hv:=h.val
 cases o with
 | none=>exact hv
 | some j =>
  simp only [Option.map_some,List.length_append,List.length_singleton,List.getElem?_cons_succ] at hv ⊢
  rw [hv.1,show σ.length+1+j=σ.length+(j+1) from by omega]
  exact ⟨rfl,hv.2⟩⟩
end Ab
namespace Ab
open Go Go.RowKit Go.Proofs
structure Cr where
 hour:Int
 stand:Int
 notice:Int
structure Bk where
 houses:Int
 notices:Int
 hears:List (List (List Int))
 reads:List Int
 cries:List Cr
def Zd (b:Bk):AV:=.agg [.int .i64 b.houses,.int .i64 b.notices,.pl 1 (b.hears.map fun x=>AV.pl 1 (x.map fun z=>AV.pl 1 (z.map fun y=>AV.int .i64 y))),.pl 1 (b.reads.map fun x=>AV.int .i64 x),.pl 3 (b.cries.map fun x=>AV.agg [.int .i64 x.hour,.int .i64 x.stand,.int .i64 x.notice])]
def Zm (n lo hi:Int):Bool:=decide (lo≤n)&&decide (n≤hi)
attribute [local irreducible] aws awp aw1 Og Om Oc Oa Ogd Ov Ot awd Zb awh Wb Ogh Ohd awl Ogl Ohl awv Ogv Ohv Xb Vb QFn Ub QRo QBe ACode AYield
theorem Xai (n lo hi:Int):APure Tryz.prog 323 [.int .i64 n,.int .i64 lo,.int .i64 hi] (.bool (Zm n lo hi)):=by
 intro σ
 refine Yb Tryz.func323 rfl (Ua Tryz.func323 (by decide) rfl) ?_
 simp [Tryz.ntmps323,Zm]
 by_cases h:lo≤n<;>by_cases h2:n≤hi<;>simp [h,h2]
theorem Ven (b:Bk) (n:Int) (h:-9223372036854775808≤b.houses - 1∧b.houses - 1≤9223372036854775807):APure Tryz.prog 328 [Zd b,.int .i64 n] (.bool (Zm n 0 (b.houses - 1))):=by
 refine APure.of fun σ=>?_
 refine Yb Tryz.func328 rfl (Ua Tryz.func328 (by decide) rfl) ?_
 have hw:=w64 h.1 h.2
 simp [Tryz.ntmps328,Zd,hw]
 refine (Xai _ _ _).use ?_
 simp
theorem Ude (b:Bk) (n:Int) (h:-9223372036854775808≤b.notices - 1∧b.notices - 1≤9223372036854775807):APure Tryz.prog 324 [Zd b,.int .i64 n] (.bool (Zm n 0 (b.notices - 1))):=by
 refine APure.of fun σ=>?_
 refine Yb Tryz.func324 rfl (Ua Tryz.func324 (by decide) rfl) ?_
 have hw:=w64 h.1 h.2
 simp [Tryz.ntmps324,Zd,hw]
 refine (Xai _ _ _).use ?_
 simp
theorem Whn (b:Bk) (n:Int) (h:b.reads.length≤2^40):APure Tryz.prog 322 [Zd b,.int .i64 n] (.bool (Zm n 0 (b.reads.length - 1))):=by
 refine APure.of fun σ=>?_
 refine Yb Tryz.func322 rfl (Ua Tryz.func322 (by decide) rfl) ?_
 have hw:=w64 (n:=(b.reads.length:Int) - 1) (by omega) (by omega)
 simp [Tryz.ntmps322,Zd,hw]
 refine (Xai _ _ _).use ?_
 simp
theorem Zcp (l:List Int) (n:Int) (hl:l.length≤2^40):APure Tryz.prog 129 [.pl 1 (l.map fun x=>AV.int .i64 x),.int .i64 n] (.int .i64 (Vv l fun x=>decide (n=x))):=by
 intro σ
 refine Yb Tryz.func129 rfl (Ua Tryz.func129 (by decide) rfl) ?_
 simp [Tryz.ntmps129]
 refine Xc (fun env σ'=>∃ (u:List AV) (i:Nat),env={ t:=u }∧u.length=19∧tg u 0=.pl 1 (l.map fun x=>AV.int .i64 x)∧tg u 1=.int .i64 n∧tg u 7=.int .i64 l.length∧tg u 8=.int .i64 i∧σ'=σ∧i≤l.length∧∀ x∈l.take i,(decide (n=x))=false)
  (fun env _=>match tg env.t 8 with | .int _ i=>l.length - i.toNat | _=>0) ⟨_,0,rfl,by simp,by simp,by simp,by simp,by simp,rfl,by omega,fun x hx=>by simp at hx⟩ ?_
 rintro env σ' ⟨u,i,rfl,hl0,g0,g1,g7,g8,rfl,hi,hd⟩
 rcases Qzn i l.length with hlt | hge
 ·have hlt':(i:Int)<(l.length:Int):=by omega
  have hw1:=w64 (n:=(i:Int)+1) (by omega) (by omega)
  by_cases hx:n=l[i]
  ·have h2:=War (p:=fun x=>decide (n=x)) hlt hd (by simp [hx])
   simp [hl0,g0,g1,g7,g8,hlt',hlt,hx]
   rw [hx] at h2
   simpa using h2.symm
  ·simp [hl0,g0,g1,g7,g8,hlt',hlt,hx,hw1]
   exact ⟨⟨i+1,by simp,hlt,fun x hm=>by simpa using Xaz hlt hd (by simp [hx]) x hm⟩,by omega⟩
 ·have hge':¬ (i:Int)<(l.length:Int):=by omega
  rw [List.take_of_length_le hge] at hd
  simp [hl0,g0,g1,g7,g8,hge']
  exact (Uav (p:=fun x=>decide (n=x)) hd).symm
theorem Ua3 (l:List Int) (n:Int) (hl:l.length≤2^40):APure Tryz.prog 48 [.pl 1 (l.map fun x=>AV.int .i64 x),.int .i64 n] (.bool (decide (n∈l))):=by
 intro σ
 refine Yb Tryz.func48 rfl (Ua Tryz.func48 (by decide) rfl) ?_
 simp [Tryz.ntmps48]
 refine (Zcp l n hl).use ?_
 have:=Zav l fun x=>decide (n=x)
 have h2:(0≤Vv l fun x=>decide (n=x))↔n∈l:=by
  have h3:(decide (0≤Vv l fun x=>decide (n=x))=true)↔((l.any fun x=>decide (n=x))=true):=by rw [this]
  simpa using h3
 simp [h2]
def Yb9 (b:Bk) (l:List Int):Prop:=l.Nodup∧∀ x∈l,0≤x∧x≤b.houses - 1
theorem Xgm (b:Bk) (l:List Int) (h:-9223372036854775808≤b.houses - 1∧b.houses - 1≤9223372036854775807) (hl:l.length≤2^40) (ho:Yb9 b l):APure Tryz.prog 317 [Zd b,.pl 1 (l.map fun x=>AV.int .i64 x)] (.int .i64 0):=by
 refine APure.of fun σ=>?_
 refine Yb Tryz.func317 rfl (Ua Tryz.func317 (by decide) rfl) ?_
 simp [Tryz.ntmps317,Zd]
 refine Xc (fun env σ'=>∃ (u:List AV) (i:Nat),env={ t:=u }∧u.length=24∧tg u 1=.pl 1 (l.map fun x=>AV.int .i64 x)∧tg u 2=.ptr σ.length 0∧tg u 7=.pl 1 (l.map fun x=>AV.int .i64 x)∧tg u 8=.int .i64 l.length∧tg u 9=.int .i64 i∧σ'=σ++[.cells (Zd b).cells]∧i≤l.length)
  (fun env _=>match tg env.t 9 with | .int _ i=>l.length - i.toNat | _=>0) ⟨_,0,rfl,by simp,by simp,by simp,by simp,by simp,by simp,by simp [Zd],by omega⟩ ?_
 rintro env σ' ⟨u,i,rfl,hl0,g1,g2,g7,g8,g9,rfl,hi⟩
 rcases Qzn i l.length with hlt | hge
 ·have hlt':(i:Int)<(l.length:Int):=by omega
  have hw1:=w64 (n:=(i:Int)+1) (by omega) (by omega)
  simp [hl0,g1,g2,g7,g8,g9,hlt',hlt,Zd]
  refine (Ven b l[i] h).use ?_
  have hr:=ho.2 _ (List.getElem_mem hlt)
  have hin:Zm l[i] 0 (b.houses - 1)=true:=by simp [Zm,hr]
  simp [hl0,g1,g2,g7,g8,g9,hin]
  have hnc:¬ l[i]∈l.take i:=by
   intro hm
   obtain ⟨j,hj,he⟩:=List.mem_iff_getElem.1 hm
   simp at hj he
   have:=(List.getElem_inj ho.1).1 he
   omega
  simp [hi,← List.map_take]
  refine (Ua3 (l.take i) l[i] (by simp;omega)).use ?_
  simp [hl0,g1,g2,g7,g8,g9,hnc,hw1]
  exact ⟨⟨i+1,by simp,hlt⟩,by omega⟩
 ·have hge':¬ (i:Int)<(l.length:Int):=by omega
  simp [hl0,g1,g2,g7,g8,g9,hge']
end Ab
namespace Ab
open Go Go.RowKit Go.Proofs
attribute [local irreducible] aws awp aw1 Og Om Oc Oa Ogd Ov Ot awd Zb awh Wb Ogh Ohd awl Ogl Ohl awv Ogv Ohv Xb Vb QFn Ub QRo QBe ACode AYield
theorem Vgh (l:List (List (List Int))) (p:List (List Int)→Bool) (h:FuncId) (fs cs:List AV) (hl:l.length≤2^40) (σ:Za) (hc:∀ x∈l,ACalls Tryz.prog h (fs++[AV.pl 1 (x.map fun z=>AV.pl 1 (z.map fun y=>AV.int .i64 y))]++cs) σ fun v s=>v=.bool (p x)∧s=σ) :
  ACalls Tryz.prog 359 [.pl 1 (l.map fun x=>AV.pl 1 (x.map fun z=>AV.pl 1 (z.map fun y=>AV.int .i64 y))),.fn (.func h) fs cs] σ fun v s=>v=.int .i64 (Vv l p)∧s=σ:=by
 refine Yb Tryz.func359 rfl (Ua Tryz.func359 (by decide) rfl) ?_
 simp [Tryz.ntmps359]
 refine Xc (fun env σ'=>∃ (u:List AV) (i:Nat),env={ t:=u }∧u.length=19∧tg u 0=.pl 1 (l.map fun x=>AV.pl 1 (x.map fun z=>AV.pl 1 (z.map fun y=>AV.int .i64 y)))∧tg u 1=.fn (.func h) fs cs∧tg u 7=.int .i64 l.length∧tg u 8=.int .i64 i∧σ'=σ∧i≤l.length∧∀ x∈l.take i,p x=false)
  (fun env _=>match tg env.t 8 with | .int _ i=>l.length - i.toNat | _=>0) ⟨_,0,rfl,by simp,by simp,by simp,by simp,by simp,rfl,by omega,fun x hx=>by simp at hx⟩ ?_
 rintro env σ' ⟨u,i,rfl,hl0,g0,g1,g7,g8,rfl,hi,hd⟩
 rcases Qzn i l.length with hlt | hge
 ·have hlt':(i:Int)<(l.length:Int):=by omega
  simp [hl0,g0,g1,g7,g8,hlt',hlt]
  have hci:=hc _ (List.getElem_mem hlt)
  simp only [List.append_assoc,List.cons_append,List.nil_append] at hci
  refine StA.of (hci.mono ?_)
  rintro v σ'' ⟨rfl,rfl⟩
  cases hx:p l[i] with
  | false =>
   have hw1:=w64 (n:=(i:Int)+1) (by omega) (by omega)
   simp [hl0,g0,g1,g7,g8,hw1]
   exact ⟨⟨i+1,by simp,hlt,Xaz hlt hd hx⟩,by omega⟩
  | true =>
   simp [hl0,g0,g1,g7,g8,War hlt hd hx]
 ·have hge':¬ (i:Int)<(l.length:Int):=by omega
  rw [List.take_of_length_le hge] at hd
  simp [hl0,g0,g1,g7,g8,hge',Uav hd]
theorem Vii (l:List (List (List Int))) (p:List (List Int)→Bool) (h:FuncId) (fs cs:List AV) (hl:l.length≤2^40) (σ:Za) (hc:∀ x∈l,ACalls Tryz.prog h (fs++[AV.pl 1 (x.map fun z=>AV.pl 1 (z.map fun y=>AV.int .i64 y))]++cs) σ fun v s=>v=.bool (p x)∧s=σ) :
  ACalls Tryz.prog 356 [.pl 1 (l.map fun x=>AV.pl 1 (x.map fun z=>AV.pl 1 (z.map fun y=>AV.int .i64 y))),.fn (.func h) fs cs] σ fun v s=>v=.bool (l.any p)∧s=σ:=by
 refine Yb Tryz.func356 rfl (Ua Tryz.func356 (by decide) rfl) ?_
 simp [Tryz.ntmps356]
 refine StA.of ((Vgh l p h fs cs hl σ hc).mono ?_)
 rintro v σ' ⟨rfl,rfl⟩
 simp [Zav]
theorem Yfg (l:List (List (List Int))) (p:List (List Int)→Bool) (h:FuncId) (fs cs:List AV) (hl:l.length≤2^40) (σ:Za) (hc:∀ x∈l,∀ g:Za,ACalls Tryz.prog h (fs++[AV.pl 1 (x.map fun z=>AV.pl 1 (z.map fun y=>AV.int .i64 y))]++cs) (σ++g) fun v s=>v=.bool (p x)∧s=σ++g) :
  ACalls Tryz.prog 345 [.pl 1 (l.map fun x=>AV.pl 1 (x.map fun z=>AV.pl 1 (z.map fun y=>AV.int .i64 y))),.fn (.func h) fs cs] σ fun v s=>v=.bool (l.all p)∧s=σ:=by
 refine ACalls.forget ?_
 refine Yb Tryz.func345 rfl (Ua Tryz.func345 (by decide) rfl) ?_
 simp [Tryz.ntmps345]
 refine StA.of ((Vii l (fun x=>!p x) 357 [] [.ptr σ.length 0] hl _ fun x hx=>?_).mono ?_)
 ·skip
  refine Yb Tryz.func357 rfl (Ua Tryz.func357 (by decide) rfl) ?_
  simp [Tryz.ntmps357]
  have hci:=hc x hx [.cells [.fn (.func h) fs cs]]
  simp only [List.append_assoc,List.cons_append,List.nil_append] at hci
  refine StA.of (hci.mono ?_)
  rintro v s ⟨rfl,rfl⟩
  simp
 ·rintro v s ⟨rfl,rfl⟩
  simp [Ubs]
theorem Ygu (l:List (Cr)) (p:Cr→Bool) (h:FuncId) (fs cs:List AV) (hl:l.length≤2^40) (σ:Za) (hc:∀ x∈l,ACalls Tryz.prog h (fs++[AV.agg [.int .i64 x.hour,.int .i64 x.stand,.int .i64 x.notice]]++cs) σ fun v s=>v=.bool (p x)∧s=σ) :
  ACalls Tryz.prog 358 [.pl 3 (l.map fun x=>AV.agg [.int .i64 x.hour,.int .i64 x.stand,.int .i64 x.notice]),.fn (.func h) fs cs] σ fun v s=>v=.int .i64 (Vv l p)∧s=σ:=by
 refine Yb Tryz.func358 rfl (Ua Tryz.func358 (by decide) rfl) ?_
 simp [Tryz.ntmps358]
 refine Xc (fun env σ'=>∃ (u:List AV) (i:Nat),env={ t:=u }∧u.length=19∧tg u 0=.pl 3 (l.map fun x=>AV.agg [.int .i64 x.hour,.int .i64 x.stand,.int .i64 x.notice])∧tg u 1=.fn (.func h) fs cs∧tg u 7=.int .i64 l.length∧tg u 8=.int .i64 i∧σ'=σ∧i≤l.length∧∀ x∈l.take i,p x=false)
  (fun env _=>match tg env.t 8 with | .int _ i=>l.length - i.toNat | _=>0) ⟨_,0,rfl,by simp,by simp,by simp,by simp,by simp,rfl,by omega,fun x hx=>by simp at hx⟩ ?_
 rintro env σ' ⟨u,i,rfl,hl0,g0,g1,g7,g8,rfl,hi,hd⟩
 rcases Qzn i l.length with hlt | hge
 ·have hlt':(i:Int)<(l.length:Int):=by omega
  simp [hl0,g0,g1,g7,g8,hlt',hlt]
  have hci:=hc _ (List.getElem_mem hlt)
  simp only [List.append_assoc,List.cons_append,List.nil_append] at hci
  refine StA.of (hci.mono ?_)
  rintro v σ'' ⟨rfl,rfl⟩
  cases hx:p l[i] with
  | false =>
   have hw1:=w64 (n:=(i:Int)+1) (by omega) (by omega)
   simp [hl0,g0,g1,g7,g8,hw1]
   exact ⟨⟨i+1,by simp,hlt,Xaz hlt hd hx⟩,by omega⟩
  | true =>
   simp [hl0,g0,g1,g7,g8,War hlt hd hx]
 ·have hge':¬ (i:Int)<(l.length:Int):=by omega
  rw [List.take_of_length_le hge] at hd
  simp [hl0,g0,g1,g7,g8,hge',Uav hd]
theorem Yea (l:List (Cr)) (p:Cr→Bool) (h:FuncId) (fs cs:List AV) (hl:l.length≤2^40) (σ:Za) (hc:∀ x∈l,ACalls Tryz.prog h (fs++[AV.agg [.int .i64 x.hour,.int .i64 x.stand,.int .i64 x.notice]]++cs) σ fun v s=>v=.bool (p x)∧s=σ) :
  ACalls Tryz.prog 348 [.pl 3 (l.map fun x=>AV.agg [.int .i64 x.hour,.int .i64 x.stand,.int .i64 x.notice]),.fn (.func h) fs cs] σ fun v s=>v=.bool (l.any p)∧s=σ:=by
 refine Yb Tryz.func348 rfl (Ua Tryz.func348 (by decide) rfl) ?_
 simp [Tryz.ntmps348]
 refine StA.of ((Ygu l p h fs cs hl σ hc).mono ?_)
 rintro v σ' ⟨rfl,rfl⟩
 simp [Zav]
theorem Vid (l:List (Cr)) (p:Cr→Bool) (h:FuncId) (fs cs:List AV) (hl:l.length≤2^40) (σ:Za) (hc:∀ x∈l,∀ g:Za,ACalls Tryz.prog h (fs++[AV.agg [.int .i64 x.hour,.int .i64 x.stand,.int .i64 x.notice]]++cs) (σ++g) fun v s=>v=.bool (p x)∧s=σ++g) :
  ACalls Tryz.prog 320 [.pl 3 (l.map fun x=>AV.agg [.int .i64 x.hour,.int .i64 x.stand,.int .i64 x.notice]),.fn (.func h) fs cs] σ fun v s=>v=.bool (l.all p)∧s=σ:=by
 refine ACalls.forget ?_
 refine Yb Tryz.func320 rfl (Ua Tryz.func320 (by decide) rfl) ?_
 simp [Tryz.ntmps320]
 refine StA.of ((Yea l (fun x=>!p x) 349 [] [.ptr σ.length 0] hl _ fun x hx=>?_).mono ?_)
 ·refine ACalls.forget ?_
  refine Yb Tryz.func349 rfl (Ua Tryz.func349 (by decide) rfl) ?_
  simp [Tryz.ntmps349]
  have hci:=hc x hx [.cells [.fn (.func h) fs cs],.cells [.int .i64 x.hour,.int .i64 x.stand,.int .i64 x.notice]]
  simp only [List.append_assoc,List.cons_append,List.nil_append] at hci
  refine StA.of (hci.mono ?_)
  rintro v s ⟨rfl,rfl⟩
  simp
 ·rintro v s ⟨rfl,rfl⟩
  simp [Ubs]
theorem Zgp (l:List (Int)) (p:Int→Bool) (h:FuncId) (fs cs:List AV) (hl:l.length≤2^40) (σ:Za) (hc:∀ x∈l,∀ g:Za,ACalls Tryz.prog h (fs++[AV.int .i64 x]++cs) (σ++g) fun v s=>v=.bool (p x)∧s=σ++g) :
  ACalls Tryz.prog 318 [.pl 1 (l.map fun x=>AV.int .i64 x),.fn (.func h) fs cs] σ fun v s=>v=.bool (l.all p)∧s=σ:=by
 refine ACalls.forget ?_
 refine Yb Tryz.func318 rfl (Ua Tryz.func318 (by decide) rfl) ?_
 simp [Tryz.ntmps318]
 refine StA.of ((Wdy l (fun x=>!p x) 347 [] [.ptr σ.length 0] hl _ fun x hx=>?_).mono ?_)
 ·skip
  refine Yb Tryz.func347 rfl (Ua Tryz.func347 (by decide) rfl) ?_
  simp [Tryz.ntmps347]
  have hci:=hc x hx [.cells [.fn (.func h) fs cs]]
  simp only [List.append_assoc,List.cons_append,List.nil_append] at hci
  refine StA.of (hci.mono ?_)
  rintro v s ⟨rfl,rfl⟩
  simp
 ·rintro v s ⟨rfl,rfl⟩
  simp [Ubs]
theorem Xeb (n m:Int) (r:Nat) (σ:Za) (hr:σ[r]? = some (.cells [.int .i64 m])):ACalls Tryz.prog 350 [.int .i64 n,.arr 1 r 0 1] σ fun v s=>v=.int .i64 (min n m)∧s=σ:=by
 refine Yb Tryz.func350 rfl (Ua Tryz.func350 (by decide) rfl) ?_
 simp [Tryz.ntmps350]
 refine Xc (fun env σ'=>∃ (u:List AV) (i:Nat),env={ t:=u }∧u.length=18∧tg u 0=.int .i64 (if i=0 then n else min n m)∧tg u 7=.arr 1 r 0 1∧tg u 8=.int .i64 1∧tg u 9=.int .i64 i∧σ'=σ∧i≤1)
  (fun env _=>match tg env.t 9 with | .int _ i=>1 - i.toNat | _=>0) ⟨_,0,rfl,by simp,by simp,by simp,by simp,by simp,rfl,by omega⟩ ?_
 rintro env σ' ⟨u,i,rfl,hl0,g0,g7,g8,g9,rfl,hi⟩
 match i,hi with
 | 0,_ =>
  have hw:IntKind.i64.wrap 1=1:=by decide
  simp [hl0,g0,g7,g8,g9,hr,hw]
  exact ⟨1,by simp;omega,by simp⟩
 | 1,_=>simp [hl0,g0,g7,g8,g9]
def Uq (a b:Int):Bool:=decide (min (Int.tmod (a - b+8) 8) (8 - Int.tmod (a - b+8) 8)≤1)
theorem Ycj (a b:Int) (ha:0≤a∧a≤7) (hb:0≤b∧b≤7):APure Tryz.prog 325 [.int .i64 a,.int .i64 b] (.bool (Uq a b)):=by
 refine APure.of fun σ=>?_
 refine Yb Tryz.func325 rfl (Ua Tryz.func325 (by decide) rfl) ?_
 have hw:=w64 (n:=a - b) (by omega) (by omega)
 have hw2:=w64 (n:=a - b+8) (by omega) (by omega)
 have hm:0≤(a - b+8).tmod 8∧(a - b+8).tmod 8<8:=⟨Int.tmod_nonneg _ (by omega),Int.tmod_lt_of_pos _ (by omega)⟩
 have hw3:=w64 (n:=(a - b+8).tmod 8) (by omega) (by omega)
 have hw4:=w64 (n:=8 - (a - b+8).tmod 8) (by omega) (by omega)
 simp [Tryz.ntmps325,hw,hw2,hw3,hw4]
 refine StA.of ((Xeb _ (8 - (a - b+8).tmod 8) σ.length _ (by simp)).mono ?_)
 rintro v s ⟨rfl,rfl⟩
 simp [Uq]
def Yab (b:Bk) (h:Nat) (w:Int):Bool:=decide (b.reads[h]? = some (-1))||Uq w (b.reads[h]?.getD 0)
theorem Yeo (b:Bk) (h:Nat) (w:Int) (hh:h<b.reads.length) (hw:0≤w∧w≤7) (hr:b.reads[h]=-1∨0≤b.reads[h]∧b.reads[h]≤7):APure Tryz.prog 271 [Zd b,.int .i64 h,.int .i64 w] (.bool (Yab b h w)):=by
 refine APure.of fun σ=>?_
 refine Yb Tryz.func271 rfl (Ua Tryz.func271 (by decide) rfl) ?_
 rcases hr with hr | hr
 ·simp [Tryz.ntmps271,Zd,hh,hr,Yab]
 ·have hn:¬ b.reads[h]=-1:=by omega
  simp [Tryz.ntmps271,Zd,hh,hn,Yab]
  refine (Ycj _ _ hw hr).use ?_
  simp
theorem Zhg (n:Int):APure Tryz.prog 319 [.int .i64 n] (.bool (decide (n=-1)||Zm n 0 7)):=by
 intro σ
 refine Yb Tryz.func319 rfl (Ua Tryz.func319 (by decide) rfl) ?_
 by_cases h:n=-1
 ·simp [Tryz.ntmps319,h]
 ·simp [Tryz.ntmps319,h]
  refine (Xai _ _ _).use ?_
  simp
end Ab

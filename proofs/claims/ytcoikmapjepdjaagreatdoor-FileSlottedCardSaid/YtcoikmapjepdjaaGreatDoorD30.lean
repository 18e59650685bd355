/-
  Texts packed for a claim.
-/
import Derived.Test.YtcoikmapjepdjaaGreatDoorD00
import Derived.Test.YtcoikmapjepdjaaGreatDoorD11
import Derived.Test.YtcoikmapjepdjaaGreatDoorD15
import Derived.Test.YtcoikmapjepdjaaGreatDoorD29
import Derived.Test.YtcoikmapjepdjaaGreatDoorD22
import Derived.Test.YtcoikmapjepdjaaGreatDoorD21
set_option linter.all false
namespace Ab
open Go Go.RowKit Go.Proofs
structure Cr where
 hour:Int
 stand:Int
 notice:Int
structure Bk where
 houses:Int
 notices:Int
 hears:List (List (List Int))
 reads:List Int
 cries:List Cr
def Uhb (b:Bk):AV:=.agg [.int .i64 b.houses,.int .i64 b.notices,.pl 1 (b.hears.map fun x=>AV.pl 1 (x.map fun z=>AV.pl 1 (z.map fun y=>AV.int .i64 y))),.pl 1 (b.reads.map fun x=>AV.int .i64 x),.pl 3 (b.cries.map fun x=>AV.agg [.int .i64 x.hour,.int .i64 x.stand,.int .i64 x.notice])]
def Zhr (n lo hi:Int):Bool:=decide (lo≤n)&&decide (n≤hi)
attribute [local irreducible] aws awp aw1 Og Om Oc Oa Ogd Ov Ot awd Zb awh Xb Ogh Ohd awl Ogl Ohl awv Ogv Ohv Wb Vb QFn Ub QRo QBe ACode AYield
theorem Uby (l:List Int) (n:Int) (hl:l.length≤2^40):APure Tryz.prog 129 [.pl 1 (l.map fun x=>AV.int .i64 x),.int .i64 n] (.int .i64 (Wz l fun x=>decide (n=x))):=by
 intro σ
 refine Yb Tryz.func129 rfl (Va Tryz.func129 (by decide) rfl) ?_
 simp [Tryz.ntmps129]
 refine Vd (fun env σ'=>∃ (u:List AV) (i:Nat),env={ t:=u }∧u.length=19∧tg u 0=.pl 1 (l.map fun x=>AV.int .i64 x)∧tg u 1=.int .i64 n∧tg u 7=.int .i64 l.length∧tg u 8=.int .i64 i∧σ'=σ∧i≤l.length∧∀ x∈l.take i,(decide (n=x))=false)
  (fun env _=>match tg env.t 8 with | .int _ i=>l.length - i.toNat | _=>0) ⟨_,0,rfl,by simp,by simp,by simp,by simp,by simp,rfl,by omega,fun x hx=>by simp at hx⟩ ?_
 rintro env σ' ⟨u,i,rfl,hl0,g0,g1,g7,g8,rfl,hi,hd⟩
 rcases Qzn i l.length with hlt | hge
 ·have hlt':(i:Int)<(l.length:Int):=by omega
  have hw1:=w64 (n:=(i:Int)+1) (by omega) (by omega)
  by_cases hx:n=l[i]
  ·have h2:=Ybs (p:=fun x=>decide (n=x)) hlt hd (by simp [hx])
   simp [hl0,g0,g1,g7,g8,hlt',hlt,hx]
   rw [hx] at h2
   simpa using h2.symm
  ·simp [hl0,g0,g1,g7,g8,hlt',hlt,hx,hw1]
   exact ⟨⟨i+1,by simp,hlt,fun x hm=>by simpa using Uho hlt hd (by simp [hx]) x hm⟩,by omega⟩
 ·have hge':¬ (i:Int)<(l.length:Int):=by omega
  rw [List.take_of_length_le hge] at hd
  simp [hl0,g0,g1,g7,g8,hge']
  exact (Zb2 (p:=fun x=>decide (n=x)) hd).symm
theorem Zbr (l:List Int) (n:Int) (hl:l.length≤2^40):APure Tryz.prog 48 [.pl 1 (l.map fun x=>AV.int .i64 x),.int .i64 n] (.bool (decide (n∈l))):=by
 intro σ
 refine Yb Tryz.func48 rfl (Va Tryz.func48 (by decide) rfl) ?_
 simp [Tryz.ntmps48]
 refine (Uby l n hl).use ?_
 have:=Ub5 l fun x=>decide (n=x)
 have h2:(0≤Wz l fun x=>decide (n=x))↔n∈l:=by
  have h3:(decide (0≤Wz l fun x=>decide (n=x))=true)↔((l.any fun x=>decide (n=x))=true):=by rw [this]
  simpa using h3
 simp [h2]
def Udj (b:Bk) (l:List Int):Prop:=l.Nodup∧∀ x∈l,0≤x∧x≤b.houses - 1
end Ab
namespace Ab
open Go Go.RowKit Go.Proofs
attribute [local irreducible] aws awp aw1 Og Om Oc Oa Ogd Ov Ot awd Zb awh Xb Ogh Ohd awl Ogl Ohl awv Ogv Ohv Wb Vb QFn Ub QRo QBe ACode AYield
def Zai (a b:Int):Bool:=decide (min (Int.tmod (a - b+8) 8) (8 - Int.tmod (a - b+8) 8)≤1)
def Ubn (b:Bk) (h:Nat) (w:Int):Bool:=decide (b.reads[h]? = some (-1))||Zai w (b.reads[h]?.getD 0)
end Ab
namespace Ab
open Go Go.RowKit Go.Proofs
structure Bk.Ok (b:Bk):Prop where
 houses:1≤b.houses∧b.houses≤6
 notices:1≤b.notices∧b.notices≤4
 hears:1≤b.hears.length∧b.hears.length≤4
 reads:1≤b.reads.length∧b.reads.length≤8
 cries:b.cries.length≤12
 winds:∀ x∈b.hears,x.length=8
 listed:∀ x∈b.hears,∀ l∈x,Udj b l∧l.length≤6
 read:∀ n∈b.reads,n=-1∨0≤n∧n≤7
 cry:∀ c∈b.cries,(0≤c.hour∧c.hour<b.reads.length)∧(0≤c.stand∧c.stand<b.hears.length)∧0≤c.notice∧c.notice<b.notices
attribute [local irreducible] aws awp aw1 Og Om Oc Oa Ogd Ov Ot awd Zb awh Xb Ogh Ohd awl Ogl Ohl awv Ogv Ohv Wb Vb QFn Ub QRo QBe ACode AYield
end Ab
namespace Ab
open Go Go.RowKit Go.Proofs
def Yh1 (g:List Bool):AV:=.agg (g.map AV.bool)
def Uhj (n:Int) (g:List Bool) (x:Int):List Bool:=g.set (x*4+n).toNat true
def Ydl (b:Bk) (c:Cr) (w:Nat):List Int:=(b.hears[c.stand.toNat]?.getD [])[w]?.getD []
def Zhn (b:Bk) (h w:Nat) (g:List Bool) (c:Cr):List Bool:=if c.hour=h then (Ydl b c w).foldl (Uhj c.notice) g else g
def Vbo (b:Bk) (h w:Nat) (g:List Bool):List Bool:=b.cries.foldl (Zhn b h w) g
attribute [local irreducible] aws awp aw1 Og Om Oc Oa Ogd Ov Ot awd Zb awh Xb Ogh Ohd awl Ogl Ohl awv Ogv Ohv Wb Vb QFn Ub QRo QBe ACode AYield
end Ab
namespace Ab
open Go Go.RowKit Go.Proofs
def Uh7 (n:Nat) (l:List Int):AV:=if l=[] then .pl 1 [] else .arr 1 n 0 l.length
def Yh8 (l:List Int):Za:=if l=[] then [] else [.cells (l.map fun x=>AV.int .i64 x)]
theorem Zb7 (t:List Int):(t.map fun x=>AV.int .i64 x).flatMap AV.cells=t.map fun x=>AV.int .i64 x:=by
 induction t with
 | nil=>rfl
 | cons w t ih=>rw [List.map_cons,List.flatMap_cons,ih];rfl
attribute [local irreducible] aws awp aw1 Og Om Oc Oa Ogd Ov Ot awd Zb awh Xb Ogh Ohd awl Ogl Ohl awv Ogv Ohv Wb Vb QFn Ub QRo QBe ACode AYield
end Ab
namespace Ab
open Go Go.RowKit Go.Proofs
structure Cm where
 house:Int
 notice:Int
 heard:Bool
def Yhv (c:Cm):AV:=.agg [.int .i64 c.house,.int .i64 c.notice,.bool c.heard]
def Cm.Ok (b:Bk) (c:Cm):Prop:=(0≤c.house∧c.house≤b.houses - 1)∧0≤c.notice∧c.notice≤b.notices - 1
def Zdg (c:Cm) (g:List Bool):Bool:=g[(c.house*4+c.notice).toNat]?.getD false == c.heard
def Ybj (l:List Cm) (g:List Bool) (i:Nat):List Int:=((List.range i).filter fun j=>match l[j]? with | some c=>!Zdg c g | none=>false).map fun (j:Nat)=>(j:Int)
attribute [local irreducible] aws awp aw1 Og Om Oc Oa Ogd Ov Ot awd Zb awh Xb Ogh Ohd awl Ogl Ohl awv Ogv Ohv Wb Vb QFn Ub QRo QBe ACode AYield
end Ab
namespace Ab
open Go Go.RowKit Go.Proofs
structure At where
 wind:Nat
 got:List Bool
 course:List Int
def Ubd (b:Bk) (h:Nat) (x:At) (next:List At) (w:Nat):List At :=
 if Ubn b h w then (if next.any fun a=>decide (a.wind=w)&&a.got == Vbo b h w x.got then next else next++[⟨w,Vbo b h w x.got,x.course++[(w:Int)]⟩]) else next
def zeroAt:At:=⟨0,List.replicate 24 false,[]⟩
def Zbv (w:Nat):List Nat:=(List.range 8).filter fun v=>Zai v w
def Yf8 (b:Bk) (h:Nat):List At:=if h=0 then (List.range 8).foldl (Ubd b h zeroAt) [] else []
def Ye2 (b:Bk) (h:Nat) (now:List At):List At:=now.foldl (fun next x=>(Zbv x.wind).foldl (Ubd b h x) next) (Yf8 b h)
def Ucc (b:Bk):Nat→List At
 | 0=>[]
 | h+1=>Ye2 b h (Ucc b h)
def Zdz (l:List At):List (List Bool × List Int):=l.foldl (fun out x=>if out.any fun e=>e.1 == x.got then out else out++[(x.got,x.course)]) []
def Xht (b:Bk):List (List Bool × List Int):=Zdz (Ucc b b.reads.length)
structure At.Ok (h:Nat) (x:At):Prop where
 wind:x.wind<8
 got:x.got.length=24
 course:x.course.length≤h
 ne:x.course≠[]
def Vh9 (b:Bk) (h:Nat) (l next:List At):List At:=l.foldl (fun next x=>(Zbv x.wind).foldl (Ubd b h x) next) next
structure Fits (b:Bk) (real:List Nat):Prop where
 len:real.length=b.reads.length
 lt:∀ (h:Nat) (w:Nat),real[h]? = some w→w<8∧Ubn b h w=true
 near:∀ (h:Nat) (v w:Nat),real[h]? = some v→real[h+1]? = some w→Zai w v=true
end Ab
namespace Ab
open Go Go.RowKit Go.Proofs
def Ydu (w:Nat) (g:List Bool):AV:=.agg (.int .i64 w::g.map AV.bool)
def Ugx (l:List At):List (AV × AV):=l.map fun a=>(Ydu a.wind a.got,.bool true)
end Ab
namespace Ab
open Go Go.RowKit Go.Proofs
theorem Zdt {n:Nat} {σ:Za} {r:Nat} {cs:List AV} (hn:n≤r) (hr:σ[r]? = some (.cells cs)) (h1:∀ y∈cs,y.one=true∧y.cells=[y]∧Fz n σ y y):Fz n σ (.arr 1 r 0 cs.length) (.pl 1 cs):=by
 refine .arr 1 _ 0 cs cs (fun i _=>(cs[i]?).getD .any) hn hr (fun i x hx=>?_) fun i x hx j y hy=>?_
 ·obtain ⟨h1,h2,h3⟩:=h1 x (Qzg hx)
  refine ⟨by rw [h2];rfl,fun j y hy=>?_⟩
  rw [h2] at hy
  cases j with
  | zero =>
   simp at hy
   subst hy
   exact ⟨h1,by rw [show (0+i)*1+0=i by omega,hx];rfl⟩
  | succ j=>simp at hy
 ·obtain ⟨h1,h2,h3⟩:=h1 x (Qzg hx)
  rw [h2] at hy
  cases j with
  | zero =>
   simp at hy
   subst hy
   rw [hx]
   exact h3
  | succ j=>simp at hy
def Vb1 (l:List Int):AV:=.pl 1 (l.map fun x=>AV.int .i64 x)
def Ub6 (l:List (List Int)):AV:=.pl 1 (l.map Vb1)
def Ufg (x:Cr):AV:=.agg [.int .i64 x.hour,.int .i64 x.stand,.int .i64 x.notice]
attribute [local irreducible] aws awp aw1 Og Om Oc Oa Ogd Ov Ot awd Zb awh Xb Ogh Ohd awl Ogl Ohl awv Ogv Ohv Wb Vb QFn Ub QRo QBe ACode AYield
end Ab
namespace Ab
open Go Go.RowKit Go.Proofs
abbrev Ends:=List (List Bool × List Int)
def Wch (l:Ends) (k:Nat):Nat:=(l.filter fun e=>e.1[k]?.getD false).length
def Zct (l:Ends) (h n:Nat):Int:=if Wch l (h*4+n)=l.length then 1 else if Wch l (h*4+n)=0 then 2 else 0
def Wh8 (l:Ends) (hs ns:Nat):List (List Int):=(List.range hs).map fun h=>(List.range ns).map fun n=>Zct l h n
def cmpL:List Int→List Int→Int
 | [],[]=>0
 | [],_::_=>-1
 | _::_,[]=>1
 | x::a,y::b=>if Uk x y=0 then cmpL a b else Uk x y
def Xd1 (own best:List Int):Bool:=decide (own.length<best.length)||decide (own.length=best.length)&&decide (cmpL own best<0)
def Yfd (cs:List Cm) (l:Ends) (best:List Int):List Int:=l.foldl (fun best x=>if Xd1 (Ybj cs x.1 cs.length) best then Ybj cs x.1 cs.length else best) best
def Uhx (cs:List Cm):Ends→List Int
 | []=>[]
 | e::l=>Yfd cs l (Ybj cs e.1 cs.length)
theorem Xbo:∀ (w:Nat),w<8→∀ (d:Int),(d=-1∨d=0∨d=1)→Zai ((w+d) % 8) w=true∧Zai w ((w+d) % 8)=true:=by
 intro w hw d hd
 have:w=0∨w=1∨w=2∨w=3∨w=4∨w=5∨w=6∨w=7:=by omega
 rcases this with rfl | rfl | rfl | rfl | rfl | rfl | rfl | rfl<;>rcases hd with rfl | rfl | rfl<;>decide
end Ab
namespace Ab
open Go Go.RowKit Go.Proofs
attribute [local irreducible] aws awp aw1 Og Om Oc Oa Ogd Ov Ot awd Zb awh Xb Ogh Ohd awl Ogl Ohl awv Ogv Ohv Wb Vb QFn Ub QRo QBe ACode AYield
theorem Yex (l:List Int) (hl:l.length≤2^40):APure Tryz.prog 83 [.pl 1 (l.map fun x=>AV.int .i64 x),.pl 1 (l.map fun x=>AV.int .i64 x)] (.bool true):=by
 intro σ
 refine Yb Tryz.func83 rfl (Va Tryz.func83 (by decide) rfl) ?_
 simp [Tryz.ntmps83]
 refine Vd (fun env σ'=>∃ (u:List AV) (i:Nat),env={ t:=u }∧u.length=26∧tg u 0=.pl 1 (l.map fun x=>AV.int .i64 x)∧tg u 1=.pl 1 (l.map fun x=>AV.int .i64 x)∧tg u 12=.int .i64 l.length∧tg u 13=.int .i64 i∧σ'=σ∧i≤l.length)
  (fun env _=>match tg env.t 13 with | .int _ i=>l.length - i.toNat | _=>0) ⟨_,0,rfl,by simp,by simp,by simp,by simp,by simp,rfl,by omega⟩ ?_
 rintro env σ' ⟨u,i,rfl,hl0,g0,g1,g12,g13,rfl,hi⟩
 rcases Qzn i l.length with hlt | hge
 ·have hlt':(i:Int)<(l.length:Int):=by omega
  have hw1:=w64 (n:=(i:Int)+1) (by omega) (by omega)
  simp [hl0,g0,g1,g12,g13,hlt',hlt]
  refine Zj mixed (by kernel_rfl) ?_
  simp [hl0,g0,g1,g12,g13,hlt',hlt,hw1]
  exact ⟨⟨i+1,by simp,hlt⟩,by omega⟩
 ·have hge':¬ (i:Int)<(l.length:Int):=by omega
  simp [hl0,g0,g1,g12,g13,hge']
end Ab

/-
  Texts packed for a claim.
-/
import Derived.Test.YtcoikmapjepdjaaGreatDoorO00
import Derived.Lib.Overlaps
import Derived.Test.YtcoikmapjepdjaaGreatDoorO09
import Derived.Test.YtcoikmapjepdjaaGreatDoorO10
import Derived.Test.YtcoikmapjepdjaaGreatDoorO11
import Derived.Test.YtcoikmapjepdjaaGreatDoorO13
import Derived.Test.YtcoikmapjepdjaaGreatDoorO18
import Derived.Test.YtcoikmapjepdjaaGreatDoorO14
import Derived.Test.YtcoikmapjepdjaaGreatDoorO19
import Derived.Test.YtcoikmapjepdjaaGreatDoorO20
import Derived.Test.YtcoikmapjepdjaaGreatDoorO16
set_option linter.all false
namespace Ab
open Go Go.RowKit Go.Proofs
structure Bk.Ok (b:Bk):Prop where
 houses:1≤b.houses∧b.houses≤6
 notices:1≤b.notices∧b.notices≤4
 hears:1≤b.hears.length∧b.hears.length≤4
 reads:1≤b.reads.length∧b.reads.length≤8
 cries:b.cries.length≤12
 winds:∀ x∈b.hears,x.length=8
 listed:∀ x∈b.hears,∀ l∈x,Yb9 b l∧l.length≤6
 read:∀ n∈b.reads,n=-1∨0≤n∧n≤7
 cry:∀ c∈b.cries,(0≤c.hour∧c.hour<b.reads.length)∧(0≤c.stand∧c.stand<b.hears.length)∧0≤c.notice∧c.notice<b.notices
attribute [local irreducible] aws awp aw1 Og Om Oc Oa Ogd Ov Ot awd Zb awh Wb Ogh Ohd awl Ogl Ohl awv Ogv Ohv Xb Vb QFn Ub QRo QBe ACode AYield
theorem Udc (x:List (List Int)):APure Tryz.prog 346 [AV.pl 1 (x.map fun z=>AV.pl 1 (z.map fun y=>AV.int .i64 y))] (.bool (decide (x.length=8))):=by
 intro σ
 refine Yb Tryz.func346 rfl (Ua Tryz.func346 (by decide) rfl) ?_
 have e:((x.length:Int)=8)=(x.length=8):=by simp;omega
 simp [Tryz.ntmps346,e]
theorem Ygb (b:Bk) (h:b.Ok):APure Tryz.prog 316 [Zd b] (.bool true):=by
 refine APure.of fun σ=>?_
 refine Yb Tryz.func316 rfl (Ua Tryz.func316 (by decide) rfl) ?_
 simp [Tryz.ntmps316,Zd]
 have h1:Zm b.houses 1 6=true:=by simp [Zm,h.houses]
 have h2:Zm b.notices 1 4=true:=by simp [Zm,h.notices]
 have h3:Zm b.hears.length 1 4=true:=by have:=h.hears;simp [Zm];omega
 have h4:Zm b.reads.length 1 8=true:=by have:=h.reads;simp [Zm];omega
 have h5:(b.cries.length:Int)≤12:=by have:=h.cries;omega
 refine (Xai _ _ _).use ?_
 simp [h1]
 refine (Xai _ _ _).use ?_
 simp [h2]
 refine (Xai _ _ _).use ?_
 simp [h3]
 refine (Xai _ _ _).use ?_
 simp [h4,h5]
 refine StA.of ((Yfg b.hears (fun x=>decide (x.length=8)) 346 [] [] (by have:=h.hears;omega) _ fun x hx g=>?_).mono ?_)
 ·simpa using Udc x _
 ·rintro v s ⟨rfl,rfl⟩
  have ha:(b.hears.all fun x=>decide (x.length=8))=true:=by simp;exact h.winds
  simp [ha]
theorem Zel (b:Bk) (h:b.Ok) (c:Cr) (hc:c∈b.cries) (r:Nat) (σ:Za) (hr:σ[r]? = some (.cells (Zd b).cells)) :
  ACalls Tryz.prog 321 [AV.agg [.int .i64 c.hour,.int .i64 c.stand,.int .i64 c.notice],.ptr r 0] σ fun v s=>v=.bool true∧s=σ:=by
 have hk:=h.cry c hc
 have g1:=h.hears
 have g2:=h.notices
 refine ACalls.forget ?_
 refine Yb Tryz.func321 rfl (Ua Tryz.func321 (by decide) rfl) ?_
 have hlt:r<σ.length:=(Qzs.1 hr).1
 have hw:=w64 (n:=(b.hears.length:Int) - 1) (by omega) (by omega)
 have hr':(σ++[AObj.cells [AV.int .i64 c.hour,.int .i64 c.stand,.int .i64 c.notice]])[r]? = some (.cells (Zd b).cells):=by rw [Qzl hlt];exact hr
 simp [Zd] at hr'
 simp [Tryz.ntmps321,hr',hw]
 refine (Whn b c.hour (by have:=h.reads;omega)).use ?_
 have h1:Zm c.hour 0 (b.reads.length - 1)=true:=by simp [Zm];omega
 have h2:Zm c.stand 0 (b.hears.length - 1)=true:=by simp [Zm];omega
 have h3:Zm c.notice 0 (b.notices - 1)=true:=by simp [Zm];omega
 simp [h1,hr',hw]
 refine (Xai _ _ _).use ?_
 simp [h2,hr']
 refine (Ude b c.notice (by omega)).use ?_
 simp [h3]
theorem Ufh (b:Bk) (h:b.Ok):APure Tryz.prog 270 [Zd b] (.int .i64 0):=by
 refine APure.of fun σ=>?_
 refine Yb Tryz.func270 rfl (Ua Tryz.func270 (by decide) rfl) ?_
 have hb1:=h.houses
 simp [Tryz.ntmps270,Zd]
 refine (Ygb b h).use ?_
 simp
 refine Xc (fun env σ'=>∃ (u:List AV) (i:Nat),env={ t:=u }∧u.length=43∧tg u 1=.ptr σ.length 0∧tg u 12=.pl 1 (b.hears.map fun x=>AV.pl 1 (x.map fun z=>AV.pl 1 (z.map fun y=>AV.int .i64 y)))∧tg u 13=.int .i64 b.hears.length∧tg u 14=.int .i64 i∧σ'=σ++[.cells (Zd b).cells]∧i≤b.hears.length)
  (fun env _=>match tg env.t 14 with | .int _ i=>b.hears.length - i.toNat | _=>0) ⟨_,0,rfl,by simp,by simp,by simp,by simp,by simp,by simp [Zd],by omega⟩ ?_
 rintro env σ' ⟨u,i,rfl,hl0,g1,g12,g13,g14,rfl,hi⟩
 have hlen:=h.hears
 rcases Qzn i b.hears.length with hlt | hge
 ·have hlt':(i:Int)<(b.hears.length:Int):=by omega
  have hw1:=w64 (n:=(i:Int)+1) (by omega) (by omega)
  simp [hl0,g1,g12,g13,g14,hlt',hlt,Zd]
  have h8:=h.winds _ (List.getElem_mem hlt)
  refine Xc (fun env σ'=>∃ (u:List AV) (j:Nat),env={ t:=u }∧u.length=43∧tg u 1=.ptr σ.length 0∧tg u 12=.pl 1 (b.hears.map fun x=>AV.pl 1 (x.map fun z=>AV.pl 1 (z.map fun y=>AV.int .i64 y)))∧tg u 13=.int .i64 b.hears.length∧tg u 14=.int .i64 i ∧
    tg u 18=.pl 1 (b.hears[i].map fun z=>AV.pl 1 (z.map fun y=>AV.int .i64 y))∧tg u 19=.int .i64 b.hears[i].length∧tg u 20=.int .i64 j∧σ'=σ++[.cells (Zd b).cells]∧j≤b.hears[i].length)
   (fun env _=>match tg env.t 20 with | .int _ j=>b.hears[i].length - j.toNat | _=>0) ⟨_,0,rfl,by simp [hl0],by simp [g1],by simp [g12],by simp [g13],by simp [g14],by simp [hl0],by simp [hl0],by simp [hl0],by simp [Zd],by omega⟩ ?_
  rintro env σ' ⟨u,j,rfl,hl0,g1,g12,g13,g14,g18,g19,g20,rfl,hj⟩
  rcases Qzn j b.hears[i].length with hjlt | hjge
  ·have hjlt':(j:Int)<(b.hears[i].length:Int):=by omega
   have hw2:=w64 (n:=(j:Int)+1) (by omega) (by omega)
   simp [hl0,g1,g12,g13,g14,g18,g19,g20,hjlt',hjlt,Zd]
   have hk:=h.listed _ (List.getElem_mem hlt) _ (List.getElem_mem hjlt)
   refine (Xgm b b.hears[i][j] (by omega) (by omega) hk.1).use ?_
   simp [hl0,g1,g12,g13,g14,g18,g19,g20,hw2]
   exact ⟨⟨j+1,by simp,hjlt⟩,by omega⟩
  ·have hjge':¬ (j:Int)<(b.hears[i].length:Int):=by omega
   simp [hl0,g1,g12,g13,g14,g18,g19,g20,hjge',hw1,Zd]
   exact ⟨⟨i+1,by simp,hlt⟩,by omega⟩
 ·have hge':¬ (i:Int)<(b.hears.length:Int):=by omega
  simp [hl0,g1,g12,g13,g14,hge',Zd]
  refine StA.of ((Zgp b.reads (fun n=>decide (n=-1)||Zm n 0 7) 319 [] [] (by have:=h.reads;omega) _ fun x hx g=>?_).mono ?_)
  ·simpa using Zhg x _
  ·rintro v s ⟨rfl,rfl⟩
   have ha:(b.reads.all fun n=>decide (n=-1)||Zm n 0 7)=true:=by
    rw [List.all_eq_true]
    intro n hn
    rcases h.read n hn with rfl | hn
    ·simp
    ·simp [Zm,hn]
   simp [ha]
   refine StA.of ((Vid b.cries (fun _=>true) 321 [] [.ptr σ.length 0] (by have:=h.cries;omega) _ fun x hx g=>?_).mono ?_)
   ·exact Zel b h x hx σ.length _ (by simp [Zd])
   ·rintro v s ⟨rfl,rfl⟩
    have hb:(b.cries.all fun _=>true)=true:=by simp
    simp [hb]
theorem Vfn (b:Bk) (h:b.Ok) (σ:Za):ACalls Tryz.prog 209 [Zd b] σ fun v s=>v=.tup [.ptr (σ.length+1) 0,.int .i64 0]∧s=σ++[.cells (Zd b).cells,.cells (Zd b).cells]:=by
 refine Yb Tryz.func209 rfl (Ua Tryz.func209 (by decide) rfl) ?_
 simp [Tryz.ntmps209,Zd]
 refine (Ufh b h).use ?_
 simp
end Ab
namespace Ab
open Go Go.RowKit Go.Proofs
def Xa6 (g:List Bool):AV:=.agg (g.map AV.bool)
def Zaa (n:Int) (g:List Bool) (x:Int):List Bool:=g.set (x*4+n).toNat true
def Zp (b:Bk) (c:Cr) (w:Nat):List Int:=(b.hears[c.stand.toNat]?.getD [])[w]?.getD []
def Um (b:Bk) (h w:Nat) (g:List Bool) (c:Cr):List Bool:=if c.hour=h then (Zp b c w).foldl (Zaa c.notice) g else g
def Uy (b:Bk) (h w:Nat) (g:List Bool):List Bool:=b.cries.foldl (Um b h w) g
theorem Ufo (n:Int) (g:List Bool) (x:Int):(Zaa n g x).length=g.length:=by simp [Zaa]
theorem Ucq (n:Int):∀ (l:List Int) (g:List Bool),(l.foldl (Zaa n) g).length=g.length:=by
 intro l
 induction l with
 | nil=>intro g;rfl
 | cons x l ih=>intro g;rw [List.foldl_cons,ih,Ufo]
theorem Zc1 (b:Bk) (h w:Nat) (g:List Bool) (c:Cr):(Um b h w g c).length=g.length:=by unfold Um;split;exact Ucq _ _ _;rfl
theorem Yby (b:Bk) (h w:Nat):∀ (l:List Cr) (g:List Bool),(l.foldl (Um b h w) g).length=g.length:=by
 intro l
 induction l with
 | nil=>intro g;rfl
 | cons x l ih=>intro g;rw [List.foldl_cons,ih,Zc1]
theorem Wbs (b:Bk) (h w:Nat) (g:List Bool):(Uy b h w g).length=g.length:=Yby _ _ _ _ _
theorem Ucw {α β:Type} (f:β→α→β) (g:β) (l:List α) (i:Nat) (h:i<l.length):(l.take (i+1)).foldl f g=f ((l.take i).foldl f g) l[i]:=by
 rw [Qzt h,List.foldl_append];rfl
theorem Uho {n x:Int} {Y:List Bool} (hn:0≤n) (hx:0≤x) (hl:x.toNat*4+n.toNat<Y.length) :
  List.take (x.toNat*4+n.toNat) (List.map AV.bool Y)++AV.bool true::List.drop (x.toNat*4+n.toNat+1) (List.map AV.bool Y)=List.map AV.bool (Zaa n Y x):=by
 unfold Zaa
 have e:(x*4+n).toNat=x.toNat*4+n.toNat:=by omega
 rw [e,List.map_set,List.set_eq_take_append_cons_drop,if_pos (by simpa using hl)]
attribute [local irreducible] aws awp aw1 Og Om Oc Oa Ogd Ov Ot awd Zb awh Wb Ogh Ohd awl Ogl Ohl awv Ogv Ohv Xb Vb QFn Ub QRo QBe ACode AYield
theorem Vhn (n:Nat) (S:Za) (l:List Bool):FzL n S (l.map AV.bool) (l.map AV.bool):=by
 refine ⟨rfl,fun i x y hx hy=>?_⟩
 rw [Qzp,Qzm] at hx hy
 obtain ⟨a,_,rfl⟩:=hx
 obtain ⟨c,_,rfl⟩:=hy
 simp_all
theorem Vh6 (b:Bk) (ok:b.Ok) (h w:Nat) (g:List Bool) (hg:g.length=24) (hw:w<8) (d:Nat) (σ:Za) (hd:σ[d]? = some (.cells (Zd b).cells)) :
  ACalls Tryz.prog 273 [.ptr d 0,Xa6 g,.int .i64 h,.int .i64 w] σ fun v s=>v=Xa6 (Uy b h w g)∧s=σ:=by
 refine ACalls.forget ?_
 refine Yb Tryz.func273 rfl (Ua Tryz.func273 (by decide) rfl) ?_
 have hdl:d<σ.length:=(Qzs.1 hd).1
 have hd':∀ g:Za,(σ++g)[d]? = some (.cells (Zd b).cells):=fun g=>by rw [Qzl hdl];exact hd
 have hk:=ok.cries
 simp [Zd] at hd'
 simp [Tryz.ntmps273,Xa6,hg,hd']
 refine Xc (fun env σ'=>∃ (u:List AV) (i:Nat) (q:Za),env={ t:=u }∧u.length=52∧tg u 0=.ptr d 0∧tg u 2=.int .i64 h∧tg u 3=.int .i64 w∧tg u 5=.ptr σ.length 0∧tg u 8=.ptr (σ.length+1) 0 ∧
   tg u 17=.pl 3 (b.cries.map fun x=>AV.agg [.int .i64 x.hour,.int .i64 x.stand,.int .i64 x.notice])∧tg u 18=.int .i64 b.cries.length∧tg u 19=.int .i64 i ∧
   σ'=σ++([.cells (((b.cries.take i).foldl (Um b h w) g).map AV.bool),.cells ((List.replicate 24 false).map AV.bool)]++q)∧i≤b.cries.length)
  (fun env _=>match tg env.t 19 with | .int _ i=>b.cries.length - i.toNat | _=>0) ⟨_,0,[],rfl,by simp,by simp,by simp,by simp,by simp,by simp,by simp,by simp,by simp,by simp,by omega⟩ ?_
 rintro env σ' ⟨u,i,q,rfl,hl0,g0,g2,g3,g5,g8,g17,g18,g19,rfl,hi⟩
 rcases Qzn i b.cries.length with hlt | hge
 ·have hlt':(i:Int)<(b.cries.length:Int):=by omega
  have hw1:=w64 (n:=(i:Int)+1) (by omega) (by omega)
  obtain ⟨⟨c0,c1⟩,⟨s0,s1⟩,n0,n1⟩:=ok.cry _ (List.getElem_mem hlt)
  have hG:((b.cries.take i).foldl (Um b h w) g).length=24:=by rw [Yby,hg]
  have hst:=Ucw (Um b h w) g b.cries i hlt
  generalize hX:(b.cries.take i).foldl (Um b h w) g=X at *
  simp [hl0,g0,g2,g3,g5,g8,g17,g18,g19,hlt',hlt]
  by_cases hh:b.cries[i].hour=h
  ·simp [hh]
   refine Ym mixed (by kernel_rfl) ?_
   have hst':b.cries[i].stand.toNat<b.hears.length:=by omega
   have hst'':((b.cries[i].stand.toNat:Nat):Int)=b.cries[i].stand:=by omega
   have hwl:w<b.hears[b.cries[i].stand.toNat].length:=by have:=ok.winds _ (List.getElem_mem hst');omega
   obtain ⟨hnd,hll⟩:=ok.listed _ (List.getElem_mem hst') _ (List.getElem_mem hwl)
   have hat:Zp b b.cries[i] w=b.hears[b.cries[i].stand.toNat][w]:=by simp [Zp,hst',hwl]
   simp [hl0,g0,g2,g3,g5,g8,g17,g18,g19,hd',s0,s1,hst',hwl,← hat]
   rw [← hat] at hnd hll
   have hcap:b.houses≤6:=ok.houses.2
   have hcap2:b.notices≤4:=ok.notices.2
   refine Xc (fun env σ'=>∃ (u:List AV) (j:Nat),env={ t:=u }∧u.length=52∧tg u 0=.ptr d 0∧tg u 2=.int .i64 h∧tg u 3=.int .i64 w∧tg u 5=.ptr σ.length 0∧tg u 8=.ptr (σ.length+1) 0∧tg u 10=.ptr (σ.length+(q.length+2)) 0 ∧
     tg u 17=.pl 3 (b.cries.map fun x=>AV.agg [.int .i64 x.hour,.int .i64 x.stand,.int .i64 x.notice])∧tg u 18=.int .i64 b.cries.length∧tg u 19=.int .i64 i ∧
     tg u 38=.pl 1 ((Zp b b.cries[i] w).map fun y=>AV.int .i64 y)∧tg u 39=.int .i64 (Zp b b.cries[i] w).length∧tg u 40=.int .i64 j ∧
     σ'=σ++([.cells ((((Zp b b.cries[i] w).take j).foldl (Zaa b.cries[i].notice) X).map AV.bool),.cells ((List.replicate 24 false).map AV.bool)]++q++[.cells [.int .i64 h,.int .i64 b.cries[i].stand,.int .i64 b.cries[i].notice]])∧j≤(Zp b b.cries[i] w).length)
    (fun env _=>match tg env.t 40 with | .int _ j=>(Zp b b.cries[i] w).length - j.toNat | _=>0) ⟨_,0,rfl,by simp [hl0],by simp [g0],by simp [g2],by simp [g3],by simp [g5],by simp [g8],by simp [hl0],by simp [g17],by simp [g18],by simp [g19],by simp [hl0],by simp [hl0],by simp [hl0],by simp,by omega⟩ ?_
   rintro env σ' ⟨u,j,rfl,hl0,g0,g2,g3,g5,g8,g10,g17,g18,g19,g38,g39,g40,rfl,hj⟩
   rcases Qzn j (Zp b b.cries[i] w).length with hjlt | hjge
   ·have hjlt':(j:Int)<((Zp b b.cries[i] w).length:Int):=by omega
    have hw2:=w64 (n:=(j:Int)+1) (by omega) (by omega)
    have hx:=hnd.2 _ (List.getElem_mem hjlt)
    have hG2:(((Zp b b.cries[i] w).take j).foldl (Zaa b.cries[i].notice) X).length=24:=by rw [Ucq,hG]
    have hst2:=Ucw (Zaa b.cries[i].notice) X (Zp b b.cries[i] w) j hjlt
    generalize hY:((Zp b b.cries[i] w).take j).foldl (Zaa b.cries[i].notice) X=Y at *
    simp [hl0,g0,g2,g3,g5,g8,g10,g17,g18,g19,g38,g39,g40,hjlt',hjlt]
    refine Wa2 [5] mixed (by kernel_rfl) ?_
    have x0:0≤(Zp b b.cries[i] w)[j]:=hx.1
    have x1:(Zp b b.cries[i] w)[j]<6:=by omega
    have n1':b.cries[i].notice<4:=by omega
    have hgt:∀ q:Za,(σ++AObj.cells (List.map AV.bool Y)::q)[σ.length]? = some (.cells (List.map AV.bool Y)):=fun q=>by simp
    simp [hl0,g0,g2,g3,g5,g8,g10,g17,g18,g19,g38,g39,g40,x0,x1,n0,n1']
    rw [Uho n0 x0 (by omega),if_pos (by omega)]
    simp [hw2,hG2]
    exact ⟨⟨j+1,by simp,by rw [hst2],hjlt⟩,by omega⟩
   ·have hjge':¬ (j:Int)<((Zp b b.cries[i] w).length:Int):=by omega
    rw [List.take_of_length_le hjge]
    have hh1:Um b h w X b.cries[i]=(Zp b b.cries[i] w).foldl (Zaa b.cries[i].notice) X:=by simp [Um,hh]
    simp [hl0,g0,g2,g3,g5,g8,g10,g17,g18,g19,g38,g39,g40,hjge',hw1]
    exact ⟨⟨i+1,by simp,by rw [hst,hh1],hlt⟩,by omega⟩
  ·have hh1:Um b h w X b.cries[i]=X:=by simp [Um,hh]
   simp [hh,hl0,g0,g2,g3,g5,g8,g17,g18,g19,hw1]
   exact ⟨⟨i+1,by simp,by rw [hst,hh1],hlt⟩,by omega⟩
 ·have hge':¬ (i:Int)<(b.cries.length:Int):=by omega
  have hG:(b.cries.foldl (Um b h w) g).length=24:=by rw [Yby,hg]
  rw [List.take_of_length_le hge]
  simp [hl0,g0,g2,g3,g5,g8,g17,g18,g19,hge',hG,Uy]
  have ht:List.take 24 (List.map AV.bool (List.foldl (Um b h w) g b.cries))=List.map AV.bool (List.foldl (Um b h w) g b.cries):=List.take_of_length_le (by simp [hG])
  rw [ht,if_pos (fun x hx=>by obtain ⟨y,_,rfl⟩:=List.mem_map.1 hx;rfl)]
  simp [hG,ht]
  exact Vhn _ _ _
end Ab
namespace Ab
open Go Go.RowKit Go.Proofs
attribute [local irreducible] aws awp aw1 Og Om Oc Oa Ogd Ov Ot awd Zb awh Wb Ogh Ohd awl Ogl Ohl awv Ogv Ohv Xb Vb QFn Ub QRo QBe ACode AYield
def recAt (rv:AV) (i:Int) (σ:Za):Option AV:=match rv with
 | .pl 3 l=>if 0≤i∧i.toNat<l.length then (l[i.toNat]?).bind (fun x=>if x.cells.length=3 then x.cells[2]? else none) else none
 | .arr 3 r 0 len=>if 0≤i∧i.toNat<len then (match σ[r]? with
  | some (.cells cs)=>if i.toNat*3+3≤cs.length then cs[i.toNat*3+2]? else none
  | _=>none) else none
 | _=>none
def Zib (rv:AV) (es:List (AV × AV)) (k n:Int) (σ:Za):Option (AV × Bool) :=
 match Yv [1,1] [.int .i64 k,.int .i64 n] es 0 with
 | some none=>some (.nils,false)
 | some (some (_,.int .i64 i))=>(recAt rv i σ).map (·,true)
 | _=>none
end Ab
namespace Ab
open Go Go.RowKit Go.Proofs
attribute [local irreducible] aws awp aw1 Og Om Oc Oa Ogd Ov Ot awd Zb awh Wb Ogh Ohd awl Ogl Ohl awv Ogv Ohv Xb Vb QFn Ub QRo QBe ACode AYield
abbrev Yaf:List Oyez.Rec:=[⟨1,3,[[116,105,100,101],[97,116],[115,105,120]]⟩,⟨3,12,[]⟩]
theorem Wec:APure Tryz.prog 75 [] (Yk Yaf):=by
 refine APure.of fun σ=>?_
 refine Yb Tryz.func75 rfl (Ua Tryz.func75 (by decide) rfl) ?_
 simp [Tryz.ntmps75]
 refine .arr 3 (σ.length+1) 0 _ [Yg ⟨1,3,[[116,105,100,101],[97,116],[115,105,120]]⟩,Yg ⟨3,12,[]⟩] (fun i j=>match i,j with
  | 0,0=>.int .i64 1
  | 0,1=>.int .i64 3
  | 0,_=>.arr 1 σ.length 0 3
  | _,0=>.int .i64 3
  | _,1=>.int .i64 12
  | _,_=>.nils) (by omega) (by simp;rfl) ?_ ?_
 ·intro i x hx
  match i,hx with
  | 0,hx =>
   simp at hx
   subst hx
   refine ⟨rfl,fun j y hy=>?_⟩
   match j,hy with
   | 0,hy=>simp [AV.cells] at hy;subst hy;exact ⟨rfl,rfl⟩
   | 1,hy=>simp [AV.cells] at hy;subst hy;exact ⟨rfl,rfl⟩
   | 2,hy=>simp [AV.cells] at hy;subst hy;exact ⟨rfl,rfl⟩
   | j+3,hy=>simp [AV.cells] at hy
  | 1,hx =>
   simp at hx
   subst hx
   refine ⟨rfl,fun j y hy=>?_⟩
   match j,hy with
   | 0,hy=>simp [AV.cells] at hy;subst hy;exact ⟨rfl,rfl⟩
   | 1,hy=>simp [AV.cells] at hy;subst hy;exact ⟨rfl,rfl⟩
   | 2,hy=>simp [AV.cells] at hy;subst hy;exact ⟨rfl,rfl⟩
   | j+3,hy=>simp [AV.cells] at hy
  | i+2,hx=>simp at hx
 ·intro i x hx j y hy
  match i,hx with
  | 0,hx =>
   simp at hx
   subst hx
   match j,hy with
   | 0,hy=>simp [AV.cells] at hy;subst hy;exact .int _ _
   | 1,hy=>simp [AV.cells] at hy;subst hy;exact .int _ _
   | 2,hy=>simp [AV.cells] at hy;subst hy;exact Vcn [[116,105,100,101],[97,116],[115,105,120]] 0 (Nat.le_refl _) (by simp)
   | j+3,hy=>simp [AV.cells] at hy
  | 1,hx =>
   simp at hx
   subst hx
   match j,hy with
   | 0,hy=>simp [AV.cells] at hy;subst hy;exact .int _ _
   | 1,hy=>simp [AV.cells] at hy;subst hy;exact .int _ _
   | 2,hy=>simp [AV.cells] at hy;subst hy;exact .nils_pl 1
   | j+3,hy=>simp [AV.cells] at hy
  | i+2,hx=>simp at hx
def Yac (f0:FuncId) (g:List AV→Option AV):Orc:=fun f args σ=>if f=f0 then (match g args with
 | some v=>some (v,σ)
 | none=>none) else none
theorem Uc2 {f0:FuncId} {g:List AV→Option AV} (h:∀ args v,g args=some v→APure Tryz.prog f0 args v):(Yac f0 g).Good Tryz.prog:=by
 intro f args σ v σ' hf
 unfold Yac at hf
 split at hf
 ·rename_i he
  subst he
  split at hf
  ·rename_i w hw
   simp only [Option.some.injEq,Prod.mk.injEq] at hf
   obtain ⟨rfl,rfl⟩:=hf
   exact h args _ hw σ
  ·cases hf
 ·cases hf
def orO (a b:Orc):Orc:=fun f args σ=>match a f args σ with
 | some r=>some r
 | none=>b f args σ
theorem Wb4 {a b:Orc} (ha:a.Good Tryz.prog) (hb:b.Good Tryz.prog):(orO a b).Good Tryz.prog:=by
 intro f args σ v σ' hf
 unfold orO at hf
 split at hf
 ·rename_i r hr
  simp only [Option.some.injEq] at hf
  subst hf
  exact ha _ _ _ _ _ hr
 ·exact hb _ _ _ _ _ hf
def Wbc (g:List UInt8→AV) (args:List AV):Option AV:=match args with
 | [.str s]=>if s.length≤1000 then some (g s) else none
 | _=>none
def strsOf:List AV→Option (List (List UInt8))
 | []=>some []
 | .str s::l=>(strsOf l).map (s::·)
 | _=>none
def Zdv:Orc:=fun f args σ=>if f=189 then (match args with
 | [.arr k r o n]=>(match σ[r]? with
  | some (.cells cs)=>(match strsOf cs with
   | some ws=>if k=1∧o=0∧ws.length=n∧ws.length≤1000∧(Yo ws).length≤100000 then some (.str (Yo ws),σ) else none
   | none=>none)
  | _=>none)
 | _=>none) else none
def Zbu (args:List AV):Option AV:=match args with
 | [a]=>if AV.eqb 20 a (Yk Yaf) then some (.tup [.str (Wae Yaf).1,.int .i64 (Wae Yaf).2]) else none
 | _=>none
def Wfp (args:List AV):Option AV:=match args with
 | [.int .i64 n]=>if -9223372036854775808≤n∧n≤9223372036854775807 then some (.str (Lib.itoa n)) else none
 | _=>none
def Ze0:Orc:=orO (Yac 75 fun args=>match args with | []=>some (Yk Yaf) | _=>none) <| orO (Yac 39 Zbu) <| orO (Yac 43 (Wbc fun s=>Xav (Oyez.parse s))) <|
 orO (Yac 40 (Wbc fun s=>.tup [.str (Oyez.sealOf s).1,.int .i64 (Oyez.sealOf s).2])) <| orO (Yac 41 (Wbc fun s=>.tup [.str (Xz s).1,.int .i64 (Xz s).2.1,.int .i64 (Xz s).2.2])) <|
 orO (Yac 201 (Wbc fun s=>.bool (Oyez.word s))) <| orO (Yac 38 Wfp) Zdv
end Ab
namespace Ab
open Go Go.RowKit Go.Proofs
attribute [local irreducible] aws awp aw1 Og Om Oc Oa Ogd Ov Ot awd Zb awh Wb Ogh Ohd awl Ogl Ohl awv Ogv Ohv Xb Vb QFn Ub QRo QBe ACode AYield
def Yda:FOrc:=fun f args σ=>if f=91 then (match args with
 | [.ptr d o,.agg [.int .i64 k,.int .i64 n]]=>if o=0 then (match σ[d]? with
  | some (.cells [rv,.mp m])=>(match σ[m]? with
   | some (.map es)=>(match Zib rv es k n σ with
    | some (w,is)=>if w.one=true∧fzB σ.length 20 w=true then some (.agg [.bool is,w]) else none
    | none=>none)
   | _=>none)
  | _=>none) else none
 | _=>none) else none
def ofF (F:FOrc):Orc:=fun f args σ=>(F f args σ).map (·,σ)
abbrev Yi6:Orc:=orO Ze0 (ofF Yda)
end Ab
namespace Ab
open Go Go.RowKit Go.Proofs
end Ab
namespace Ab
open Go Go.RowKit Go.Proofs
attribute [local irreducible] aws awp aw1 Og Om Oc Oa Ogd Ov Ot awd Zb awh Wb Ogh Ohd awl Ogl Ohl awv Ogv Ohv Xb Vb QFn Ub QRo QBe ACode AYield
end Ab
namespace Oyez
end Oyez
namespace Ab
open Go Go.RowKit Go.Proofs
attribute [local irreducible] aws awp aw1 Og Om Oc Oa Ogd Ov Ot awd Zb awh Wb Ogh Ohd awl Ogl Ohl awv Ogv Ohv Xb Vb QFn Ub QRo QBe ACode AYield
end Ab
namespace Oyez
def putR (r:Rec):Bool→List Rec→List Rec
 | done,[]=>if done then [] else [r]
 | done,x::t=>(if !done&&!(x.place.lt r.place) then [r] else [])++((if x.place=r.place then [] else [x])++putR r (done||!(x.place.lt r.place)) t)
end Oyez
namespace Ab
open Go Go.RowKit Go.Proofs
attribute [local irreducible] aws awp aw1 Og Om Oc Oa Ogd Ov Ot awd Zb Xb Vb QFn Ub ACode ACalls AYield
def Xf6 (o:Option (List (List UInt8))):List (List UInt8):=o.getD []
def Uiq (f:List Oyez.Rec) (p:Oyez.Place):List Oyez.Rec × Int:=if (Oyez.getIn f p).isSome then (Oyez.drop f p,0) else ([],1)
def Vin (f:List Oyez.Rec) (r:Oyez.Rec):List Oyez.Rec × Int:=if 40<(Oyez.putR r false f).length then ([],2) else (Oyez.putR r false f,0)
end Ab
namespace Ab
open Go Go.RowKit Go.Proofs
attribute [local irreducible] aws awp aw1 Og Om Oc Oa Ogd Ov Ot awd Zb awh Wb Ogh Ohd awl Ogl Ohl awv Ogv Ohv Xb Vb QFn Ub QRo QBe ACode AYield
theorem Vfp (s:List UInt8):(Xz s).1=(Oyez.mendOf s).1∧(Xz s).2.1=((Oyez.mendOf s).2.1:Int)∧(Xz s).2.2=(Oyez.mendOf s).2.2:=by
 unfold Xz
 cases h:Oyez.openedOf s with
 | error e =>
  have he:=Oyez.openedOf_err h
  have ho:Oyez.openOf s=([],e):=by unfold Oyez.openOf;rw [h]
  have hm:Oyez.mendOf s=([],0,e):=by
   unfold Oyez.mendOf
   rw [ho]
   simp only
   rw [if_neg (by omega),if_pos (by omega)]
  rw [hm]
  exact ⟨rfl,rfl,rfl⟩
 | ok x =>
  obtain ⟨b,m,n⟩:=x
  simp only
  by_cases hs:Oyez.sums b=(m,n)
  ·rw [if_pos hs]
   have ho:Oyez.openOf s=(b,0):=by unfold Oyez.openOf;rw [h];simp only;rw [if_pos hs]
   have hm:Oyez.mendOf s=([],0,5):=by
    unfold Oyez.mendOf
    rw [ho]
    simp
   rw [hm]
   exact ⟨rfl,rfl,rfl⟩
  ·rw [if_neg hs,Oyez.mendOf_eq h hs]
   exact ⟨rfl,rfl,rfl⟩
end Ab
namespace Ab
open Go Go.RowKit Go.Proofs
def Wo:AV:=.agg [.int .i64 3,.pl 2 [.agg [.int .i64 3,.pl 1 [.int .i64 0,.int .i64 1,.int .i64 2]],.agg [.int .i64 1,.pl 1 [.int .i64 0,.int .i64 1]],.agg [.int .i64 1,.pl 1 [.int .i64 0]],.agg [.int .i64 2,.pl 1 [.int .i64 0,.int .i64 1,.int .i64 2]]]]
def noF:FOrc:=fun _ _ _=>none
theorem Wba:noF.Good Tryz.prog:=fun _ _ _ _ h=>by cases h
def noO:Orc:=fun _ _ _=>none
theorem Zba:noO.Good Tryz.prog:=fun _ _ _ _ _ h=>by cases h
set_option maxRecDepth 100000 in
theorem Xga:Ur Tryz.prog noF noO 300 Tryz.f148 [Wo,.int .i64 0] (.tup [.any,.bool false]) 0=true:=by kernel_rfl
set_option maxRecDepth 100000 in
theorem Zif:Ur Tryz.prog noF noO 300 Tryz.f148 [Wo,.int .i64 0] (.tup [.any,.bool false]) 1=true:=by kernel_rfl
set_option maxRecDepth 100000 in
theorem Wft:Ur Tryz.prog noF noO 300 Tryz.f148 [Wo,.int .i64 0] (.tup [.any,.bool false]) 2=true:=by kernel_rfl
set_option maxRecDepth 100000 in
theorem Wd6:APure Tryz.prog 148 [Wo,.int .i64 0] (.tup [.any,.bool false]):=APure.runP 300 mixed Wba Zba Tryz.func148 (by kernel_rfl) Xga Zif Wft
set_option maxRecDepth 100000 in
theorem Wgz:Ur Tryz.prog noF noO 300 Tryz.f148 [Wo,.int .i64 1] (.tup [.any,.bool false]) 0=true:=by kernel_rfl
set_option maxRecDepth 100000 in
theorem Zfh:Ur Tryz.prog noF noO 300 Tryz.f148 [Wo,.int .i64 1] (.tup [.any,.bool false]) 1=true:=by kernel_rfl
set_option maxRecDepth 100000 in
theorem Wfe:Ur Tryz.prog noF noO 300 Tryz.f148 [Wo,.int .i64 1] (.tup [.any,.bool false]) 2=true:=by kernel_rfl
set_option maxRecDepth 100000 in
theorem Yfq:APure Tryz.prog 148 [Wo,.int .i64 1] (.tup [.any,.bool false]):=APure.runP 300 mixed Wba Zba Tryz.func148 (by kernel_rfl) Wgz Zfh Wfe
set_option maxRecDepth 100000 in
theorem Xd1:Ur Tryz.prog noF noO 300 Tryz.f148 [Wo,.int .i64 2] (.tup [.any,.bool false]) 0=true:=by kernel_rfl
set_option maxRecDepth 100000 in
theorem We2:Ur Tryz.prog noF noO 300 Tryz.f148 [Wo,.int .i64 2] (.tup [.any,.bool false]) 1=true:=by kernel_rfl
set_option maxRecDepth 100000 in
theorem Wew:Ur Tryz.prog noF noO 300 Tryz.f148 [Wo,.int .i64 2] (.tup [.any,.bool false]) 2=true:=by kernel_rfl
set_option maxRecDepth 100000 in
theorem Wdx:APure Tryz.prog 148 [Wo,.int .i64 2] (.tup [.any,.bool false]):=APure.runP 300 mixed Wba Zba Tryz.func148 (by kernel_rfl) Xd1 We2 Wew
set_option maxRecDepth 100000 in
theorem Xe3:Ur Tryz.prog noF noO 300 Tryz.f148 [Wo,.int .i64 3] (.tup [.any,.bool true]) 0=true:=by kernel_rfl
set_option maxRecDepth 100000 in
theorem Whx:Ur Tryz.prog noF noO 300 Tryz.f148 [Wo,.int .i64 3] (.tup [.any,.bool true]) 1=true:=by kernel_rfl
set_option maxRecDepth 100000 in
theorem Xhy:Ur Tryz.prog noF noO 300 Tryz.f148 [Wo,.int .i64 3] (.tup [.any,.bool true]) 2=true:=by kernel_rfl
set_option maxRecDepth 100000 in
theorem shared3:APure Tryz.prog 148 [Wo,.int .i64 3] (.tup [.any,.bool true]):=APure.runP 300 mixed Wba Zba Tryz.func148 (by kernel_rfl) Xe3 Whx Xhy
def courtF:FOrc:=orF (Uat 148 [Wo,.int .i64 0] (.tup [.any,.bool false])) (orF (Uat 148 [Wo,.int .i64 1] (.tup [.any,.bool false])) (orF (Uat 148 [Wo,.int .i64 2] (.tup [.any,.bool false])) (Uat 148 [Wo,.int .i64 3] (.tup [.any,.bool true]))))
theorem Zcb:courtF.Good Tryz.prog:=Wbl (Xa7 Wd6 rfl) (Wbl (Xa7 Yfq rfl) (Wbl (Xa7 Wdx rfl) (Xa7 shared3 rfl)))
theorem Xig:APure Tryz.prog 39 [Yk Yaf] (.tup [.str (Wae Yaf).1,.int .i64 (Wae Yaf).2]):=Yci Yaf (by intro r hr;simp at hr;rcases hr with rfl | rfl<;>decide)
def twoO:Orc:=orO (Yac 75 fun args=>match args with | []=>some (Yk Yaf) | _=>none) <| orO (Yac 39 Zbu) (asO courtF)
theorem Xfc:twoO.Good Tryz.prog:=by
 refine Wb4 (Uc2 fun args v hv=>?_) <| Wb4 (Uc2 fun args v hv=>?_) (Xhl Zcb)
 ·split at hv
  ·simp only [Option.some.injEq] at hv
   subst hv
   exact Wec
  ·cases hv
 ·unfold Zbu at hv
  split at hv
  ·split at hv
   ·rename_i a he
    simp only [Option.some.injEq] at hv
    subst hv
    rw [AV.eqb_eq _ _ _ he]
    exact Xig
   ·cases hv
  ·cases hv
set_option maxRecDepth 100000 in
theorem awake11_calls:APure Tryz.prog 15 [] (.bool true):=APure.runG (F:=courtF) (O:=twoO) 300 mixed Zcb Xfc (by kernel_rfl)
end Ab
namespace Ab
open Go Go.RowKit Go.Proofs
attribute [local irreducible] aws awp aw1 Og Om Oc Oa Ogd Ov Ot awd Zb awh Wb Ogh Ohd awl Ogl Ohl awv Ogv Ohv Xb Vb QFn Ub QRo QBe ACode AYield
def Vdp (ws:List (List UInt8)):Bool:=ws.any (fun w=>decide (90<w.length))||decide (10<ws.length)
def Vi2 (f:List Oyez.Rec):Bool:=f.any (fun r=>Vdp r.words)||decide (60<f.length)
def Zh0 (l:List Bool):AV:=.pl 1 (l.map AV.bool)
attribute [simp] Zh0
def Xo (f:List Oyez.Rec):List AV:=f.flatMap Vac
theorem Yed (f:List Oyez.Rec):(f.map Yg).flatMap AV.cells=Xo f:=by unfold Xo;rw [List.flatMap_map];rfl
theorem Ufe (f:List Oyez.Rec):(Xo f).length=f.length*3:=by
 unfold Xo
 induction f with
 | nil=>rfl
 | cons p t ih=>rw [List.flatMap_cons,List.length_append,ih];simp [Vac];omega
end Ab
namespace Ab
open Go Go.RowKit
variable [Mode]
variable {P:Program}
theorem Inv.retell {C:Ctx} {σ:Za} (hI:Inv C σ) {r b:Nat} {o o':AObj} (hb:C.blk[r]? = some b) (ho:σ[r]? = some o) (hl:o.live=true) (hR:∀ c,C.w.heap[b]? = some c→ORel C o c→ORel C o' c):Inv C (σ.set r o'):=by
 have hrl:=(Qzs.1 ho).1
 have old:∀ (q:Nat) (p:AObj),(σ.set r o')[q]? = some p→p.live=true→∃ p',σ[q]? = some p'∧p'.live=true:=by
  intro q p hq hp
  by_cases e:r=q
  ·subst e;exact ⟨o,ho,hl⟩
  ·rw [List.getElem?_set_ne e] at hq;exact ⟨p,hq,hp⟩
 refine ⟨by rw [List.length_set];exact hI.len,hI.glob,hI.base,hI.basep,hI.plt,fun q b' p hq hp hpl=>?_,fun q q' b' p p' hq hq' hp hp' hpl hpl'=>?_⟩
 ·by_cases e:r=q
  ·subst e
   rw [List.getElem?_set_self hrl] at hp
   obtain rfl:=Option.some.inj hp
   rw [hb] at hq
   obtain rfl:=Option.some.inj hq
   obtain ⟨h1,c,h2,h3⟩:=hI.live r b o hb ho hl
   exact ⟨h1,c,h2,hR c h2 h3⟩
  ·rw [List.getElem?_set_ne e] at hp
   exact hI.live q b' p hq hp hpl
 ·obtain ⟨x,hx,hxl⟩:=old q p hp hpl
  obtain ⟨x',hx',hxl'⟩:=old q' p' hp' hpl'
  exact hI.inj q q' b' x x' hq hq' hx hx' hxl hxl'
theorem ACalls.room {f:FuncId} {k r off len:Nat} {rest:List AV} {σ:Za} {cs:List AV} {R:AV→Za→Prop} (hen:Enters P f) (hr:σ[r]? = some (.cells cs)) (hcl:cs.length=(off+len)*k)
  (h:∀ cap,len≤cap→ACalls P f (.arc k r off len cap::rest) (σ.set r (.cells (cs++List.replicate ((cap - len)*k) .any))) fun v σ'=>∃ v' cs' tl,
   (v=v'∨∃ k2 r2 o2 l2 c2,v=.arc k2 r2 o2 l2 c2∧v'=.arr k2 r2 o2 l2)∧σ'[r]? = some (.cells (cs'++tl))∧R v' (σ'.set r (.cells cs'))):ACalls P f (.arr k r off len::rest) σ R:=by
 have hrl:=(Qzs.1 hr).1
 refine .inl ⟨hen,fun C cargs hI hv=>?_⟩
 obtain ⟨c,cs',rfl,hx,hrest⟩:=hv.inv
 obtain ⟨b,cap,e,n,hb,hcap,hsh,hbd,rfl⟩:=hx.arr_inv
 obtain ⟨hnp,carr,e',lo,hi,hc,hsz,hfr,hrel⟩:=hI.cells hb hr
 have hn:carr.size=n:=by
  simp [World.shape?,hc] at hsh
  exact hsh.2
 have hI2:Inv C (σ.set r (.cells (cs++List.replicate ((cap - len)*k) .any))):=hI.retell hb hr rfl fun c hc' _=>by
  rw [hc] at hc'
  obtain rfl:=Option.some.inj hc'
  refine .cells _ carr e' lo hi ?_ hfr fun i x d hx hd=>?_
  ·rw [List.length_append,List.length_replicate,hcl,hn,← Nat.add_mul,show off+len+(cap - len)=off+cap by omega]
   exact hbd.1
  ·rcases Qzn i cs.length with h1 | h1
   ·rw [Qzl h1] at hx
    exact hrel i x d hx hd
   ·rw [Qzr h1] at hx
    have:=Qzg hx
    rw [List.mem_replicate] at this
    rw [this.2]
    exact .any d
 have hv2:VRs C (.arc k r off len cap::rest) (.slice (some ⟨b,off*k,none⟩) len cap::cs'):=.cons (.arc k r off len b cap e n hb hcap hsh hbd) hrest
 have fin:∀ {C':Ctx} {v:AV} {d:Value} {σ':Za},Ext C C'→Inv C' σ'→VR C' v d→(∃ v' cs' tl,(v=v'∨∃ k2 r2 o2 l2 c2,v=.arc k2 r2 o2 l2 c2∧v'=.arr k2 r2 o2 l2)∧σ'[r]? = some (.cells (cs'++tl))∧R v' (σ'.set r (.cells cs'))) →
   ∃ (v':AV) (σ2:Za),Inv C' σ2∧VR C' v' d∧R v' σ2:=by
  rintro C' v d σ' hE hI' hv' ⟨v',ds,tl,hvv,hr',hR⟩
  refine ⟨v',_,hI'.retell (hE.blk_at hb) hr' rfl fun c hc' hrel=>?_,?_,hR⟩
  ·obtain ⟨carr,e,lo,hi,rfl,h1,h2,h3⟩:=hrel.cells_inv
   refine .cells ds carr e lo hi (by rw [List.length_append] at h1;omega) h2 fun i x d hx hd=>h3 i x d ?_ hd
   rw [Qzl (Qzs.1 hx).1]
   exact hx
  ·rcases hvv with rfl | ⟨k2,r2,o2,l2,c2,rfl,rfl⟩
   ·exact hv'
   ·obtain ⟨b2,e2,n2,q1,q2,q3,q4,rfl⟩:=hv'.arc_inv
    exact .arr k2 r2 o2 l2 b2 c2 e2 n2 q1 q2 q3 q4
 rcases h cap hcap with h | h
 ·refine (h.2 C _ hI2 hv2).mono ?_
  rintro en w' ⟨d,C',av,σ',rfl,rfl,hE,hI',hv',hR⟩
  obtain ⟨v',σ2,a1,a2,a3⟩:=fin hE hI' hv' hR
  exact ⟨d,C',v',σ2,rfl,rfl,hE,a1,a2,a3⟩
 ·obtain ⟨d,C',av,σ',hrun,_⟩:=h C _ hI2 hv2
  rw [hen] at hrun
  cases hrun
end Ab
namespace Ab
open Go Go.RowKit Go.Proofs
attribute [local irreducible] aws awp aw1 Og Om Oc Oa Ogd Ov Ot awd Zb awh Wb Ogh Ohd awl Ogl Ohl awv Ogv Ohv Xb Vb QFn Ub QRo QBe ACode AYield
theorem Fr.tail {n e lo hi k:Nat} (h:Fr n e lo hi) (hk:Kt k e) (h1:k≠1):¬ (lo≤n∧n<hi):=by
 rcases hk with hk | hk
 ·exact absurd hk h1
 ·exact h.2.resolve_left hk
def Xbi (cs ds:List AV) (i:Nat):List AV:=cs.take (i*3)++ds++cs.drop (i*3)
end Ab
namespace Ab
open Go Go.RowKit Go.Proofs
attribute [local irreducible] aws awp aw1 Og Om Oc Oa Ogd Ov Ot awd Zb awh Wb Ogh Ohd awl Ogl Ohl awv Ogv Ohv Xb Vb QFn Ub QRo QBe ACode AYield
end Ab
namespace Ab
open Go Go.RowKit Go.Proofs
attribute [local irreducible] aws awp aw1 Og Om Oc Oa Ogd Ov Ot awd Zb awh Wb Ogh Ohd awl Ogl Ohl awv Ogv Ohv Xb Vb QFn Ub QRo QBe ACode AYield
def InsQ (σ:Za) (r n i:Nat) (cs ds:List AV) (v:AV) (σ':Za):Prop :=
 ∃ r',v=.arr 3 r' 0 (n+1)∧σ'[r']? = some (.cells (Xbi cs ds i))∧σ.length≤σ'.length∧(r'=r∨σ.length≤r')∧∀ j,j≠r→j<σ.length→σ'[j]? = σ[j]?
end Ab
namespace Ab
open Go Go.RowKit Go.Proofs
attribute [local irreducible] aws awp aw1 Og Om Oc Oa Ogd Ov Ot awd Zb awh Wb Ogh Ohd awl Ogl Ohl awv Ogv Ohv Xb Vb QFn Ub QRo QBe ACode AYield
def Wiv (a b:Oyez.Rec):Int:=if a.kind=b.kind then a.number - b.number else a.kind - b.kind
def Wim (a:Oyez.Rec):Prop:=-2^40≤a.kind∧a.kind≤2^40∧-2^40≤a.number∧a.number≤2^40
end Ab
namespace Ab
open Go Go.RowKit Go.Proofs
theorem Ubz {n:Nat} {σ:Za} {r:Nat} {cs:List AV} (hn:n≤r) (hr:σ[r]? = some (.cells cs)) (h1:∀ y∈cs,y.one=true∧y.cells=[y]∧Fz n σ y y):Fz n σ (.arr 1 r 0 cs.length) (.pl 1 cs):=by
 refine .arr 1 _ 0 cs cs (fun i _=>(cs[i]?).getD .any) hn hr (fun i x hx=>?_) fun i x hx j y hy=>?_
 ·obtain ⟨h1,h2,h3⟩:=h1 x (Qzg hx)
  refine ⟨by rw [h2];rfl,fun j y hy=>?_⟩
  rw [h2] at hy
  cases j with
  | zero =>
   simp at hy
   subst hy
   exact ⟨h1,by rw [show (0+i)*1+0=i by omega,hx];rfl⟩
  | succ j=>simp at hy
 ·obtain ⟨h1,h2,h3⟩:=h1 x (Qzg hx)
  rw [h2] at hy
  cases j with
  | zero =>
   simp at hy
   subst hy
   rw [hx]
   exact h3
  | succ j=>simp at hy
def Wce (l:List Int):AV:=.pl 1 (l.map fun x=>AV.int .i64 x)
def Wcq (l:List (List Int)):AV:=.pl 1 (l.map Wce)
def Zdj (x:Cr):AV:=.agg [.int .i64 x.hour,.int .i64 x.stand,.int .i64 x.notice]
attribute [local irreducible] aws awp aw1 Og Om Oc Oa Ogd Ov Ot awd Zb awh Wb Ogh Ohd awl Ogl Ohl awv Ogv Ohv Xb Vb QFn Ub QRo QBe ACode AYield
end Ab

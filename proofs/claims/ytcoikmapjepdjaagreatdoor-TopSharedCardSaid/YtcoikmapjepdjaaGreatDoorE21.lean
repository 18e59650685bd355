/-
  Texts packed for a claim.
-/
import Derived.Test.YtcoikmapjepdjaaGreatDoorE00
import Derived.Test.YtcoikmapjepdjaaGreatDoorE13
import Derived.Test.YtcoikmapjepdjaaGreatDoorE17
import Derived.Test.YtcoikmapjepdjaaGreatDoorE12
import Derived.Test.YtcoikmapjepdjaaGreatDoorE20
set_option linter.all false
namespace Ab
open Go Go.RowKit Go.Proofs
attribute [local irreducible] aws awp aw1 Og Om Oc Oa Ogd Ov Ot awd Ua awh Xb Ogh Ohd awl Ogl Ohl awv Ogv Ohv Wb Vb QFn Zc QRo QBe ACode AYield
def Waj (a b:Int):Bool:=decide (min (Int.tmod (a - b+8) 8) (8 - Int.tmod (a - b+8) 8)≤1)
def Xbm (b:Bk) (h:Nat) (w:Int):Bool:=decide (b.reads[h]? = some (-1))||Waj w (b.reads[h]?.getD 0)
end Ab
namespace Ab
open Go Go.RowKit Go.Proofs
structure Bk.Ok (b:Bk):Prop where
 houses:1≤b.houses∧b.houses≤6
 notices:1≤b.notices∧b.notices≤4
 hears:1≤b.hears.length∧b.hears.length≤4
 reads:1≤b.reads.length∧b.reads.length≤8
 cries:b.cries.length≤12
 winds:∀ x∈b.hears,x.length=8
 listed:∀ x∈b.hears,∀ l∈x,Wds b l∧l.length≤6
 read:∀ n∈b.reads,n=-1∨0≤n∧n≤7
 cry:∀ c∈b.cries,(0≤c.hour∧c.hour<b.reads.length)∧(0≤c.stand∧c.stand<b.hears.length)∧0≤c.notice∧c.notice<b.notices
attribute [local irreducible] aws awp aw1 Og Om Oc Oa Ogd Ov Ot awd Ua awh Xb Ogh Ohd awl Ogl Ohl awv Ogv Ohv Wb Vb QFn Zc QRo QBe ACode AYield
end Ab
namespace Ab
open Go Go.RowKit Go.Proofs
def Wh6 (g:List Bool):AV:=.agg (g.map AV.bool)
def Ygg (n:Int) (g:List Bool) (x:Int):List Bool:=g.set (x*4+n).toNat true
def Zft (b:Bk) (c:Cr) (w:Nat):List Int:=(b.hears[c.stand.toNat]?.getD [])[w]?.getD []
def Ygc (b:Bk) (h w:Nat) (g:List Bool) (c:Cr):List Bool:=if c.hour=h then (Zft b c w).foldl (Ygg c.notice) g else g
def Wb4 (b:Bk) (h w:Nat) (g:List Bool):List Bool:=b.cries.foldl (Ygc b h w) g
attribute [local irreducible] aws awp aw1 Og Om Oc Oa Ogd Ov Ot awd Ua awh Xb Ogh Ohd awl Ogl Ohl awv Ogv Ohv Wb Vb QFn Zc QRo QBe ACode AYield
end Ab
namespace Ab
open Go Go.RowKit Go.Proofs
def Waq (n:Nat) (l:List Int):AV:=if l=[] then .pl 1 [] else .arr 1 n 0 l.length
def Uaf (l:List Int):Za:=if l=[] then [] else [.cells (l.map fun x=>AV.int .i64 x)]
theorem Vaf (t:List Int):(t.map fun x=>AV.int .i64 x).flatMap AV.cells=t.map fun x=>AV.int .i64 x:=by
 induction t with
 | nil=>rfl
 | cons w t ih=>rw [List.map_cons,List.flatMap_cons,ih];rfl
attribute [local irreducible] aws awp aw1 Og Om Oc Oa Ogd Ov Ot awd Ua awh Xb Ogh Ohd awl Ogl Ohl awv Ogv Ohv Wb Vb QFn Zc QRo QBe ACode AYield
theorem Wc3 (ws:List Int) (hw:ws.length≤2^40) (σ:Za):ACalls Tryz.prog 73 [.pl 1 (ws.map fun x=>AV.int .i64 x)] σ (fun v σ'=>v=Waq σ.length ws∧σ'=σ++Uaf ws):=by
 by_cases h:ws=[]
 ·subst h
  refine ACalls.pl0 (Zb Tryz.func73 (by decide) rfl) ?_ ?_
  ·refine ACalls.canon ?_
   refine Yb Tryz.func73 rfl (Zb Tryz.func73 (by decide) rfl) ?_
   simp [Tryz.ntmps73]
   exact ⟨[],[],rfl,List.nodup_nil,fun i o' h=>by simp at h,_,.nils_pl 1,by simp [Waq],by simp [Uaf]⟩
  ·refine ACalls.canon ?_
   refine Yb Tryz.func73 rfl (Zb Tryz.func73 (by decide) rfl) ?_
   simp [Tryz.ntmps73]
   exact ⟨[],[],rfl,List.nodup_nil,fun i o' h=>by simp at h,_,.emp_pl 1,by simp [Waq],by simp [Uaf]⟩
 ·refine ACalls.canon ?_
  refine Yb Tryz.func73 rfl (Zb Tryz.func73 (by decide) rfl) ?_
  have hb:ws.length*8≤140737488355328:=by omega
  obtain ⟨w,t,rfl⟩:∃ w t,ws=w::t:=by
   cases ws with
   | nil=>exact absurd rfl h
   | cons w t=>exact ⟨w,t,rfl⟩
  rw [List.length_cons] at hb
  simp [Tryz.ntmps73,hb]
  refine ⟨Uaf (w::t),[1],by simp [Uaf],by decide,fun i o' ho=>?_,_,.arr 1 0 1 0 _ rfl,by simp [Waq],rfl⟩
  match i,ho with
  | 0,ho =>
   simp [Uaf] at ho
   subst ho
   refine ⟨1,rfl,_,rfl,.cells _ _ (by rw [Vaf];exact Nat.le_refl _) fun i x x' hx hx'=>?_⟩
   rw [Vaf] at hx
   obtain rfl:=Option.some.inj (hx.symm.trans hx')
   have hm:=Qzg hx
   simp at hm
   rcases hm with rfl | ⟨y,_,rfl⟩
   ·exact .int _ _
   ·exact .int _ _
  | i+1,ho=>simp [Uaf] at ho
end Ab
namespace Ab
open Go Go.RowKit Go.Proofs
structure Cm where
 house:Int
 notice:Int
 heard:Bool
def Zic (c:Cm):AV:=.agg [.int .i64 c.house,.int .i64 c.notice,.bool c.heard]
def Cm.Ok (b:Bk) (c:Cm):Prop:=(0≤c.house∧c.house≤b.houses - 1)∧0≤c.notice∧c.notice≤b.notices - 1
def Yf9 (c:Cm) (g:List Bool):Bool:=g[(c.house*4+c.notice).toNat]?.getD false == c.heard
def Ubh (l:List Cm) (g:List Bool) (i:Nat):List Int:=((List.range i).filter fun j=>match l[j]? with | some c=>!Yf9 c g | none=>false).map fun (j:Nat)=>(j:Int)
attribute [local irreducible] aws awp aw1 Og Om Oc Oa Ogd Ov Ot awd Ua awh Xb Ogh Ohd awl Ogl Ohl awv Ogv Ohv Wb Vb QFn Zc QRo QBe ACode AYield
end Ab
namespace Ab
open Go Go.RowKit Go.Proofs
attribute [local irreducible] aws awp aw1 Og Om Oc Oa Ogd Ov Ot awd Ua awh Xb Ogh Ohd awl Ogl Ohl awv Ogv Ohv Wb Vb QFn Zc QRo QBe ACode AYield
theorem Yem (l:List Int) (hl:l.length≤2^40):APure Tryz.prog 83 [.pl 1 (l.map fun x=>AV.int .i64 x),.pl 1 (l.map fun x=>AV.int .i64 x)] (.bool true):=by
 intro σ
 refine Yb Tryz.func83 rfl (Zb Tryz.func83 (by decide) rfl) ?_
 simp [Tryz.ntmps83]
 refine Wd (fun env σ'=>∃ (u:List AV) (i:Nat),env={ t:=u }∧u.length=26∧tg u 0=.pl 1 (l.map fun x=>AV.int .i64 x)∧tg u 1=.pl 1 (l.map fun x=>AV.int .i64 x)∧tg u 12=.int .i64 l.length∧tg u 13=.int .i64 i∧σ'=σ∧i≤l.length)
  (fun env _=>match tg env.t 13 with | .int _ i=>l.length - i.toNat | _=>0) ⟨_,0,rfl,by simp,by simp,by simp,by simp,by simp,rfl,by omega⟩ ?_
 rintro env σ' ⟨u,i,rfl,hl0,g0,g1,g12,g13,rfl,hi⟩
 rcases Qzn i l.length with hlt | hge
 ·have hlt':(i:Int)<(l.length:Int):=by omega
  have hw1:=w64 (n:=(i:Int)+1) (by omega) (by omega)
  simp [hl0,g0,g1,g12,g13,hlt',hlt]
  refine Yl mixed (by kernel_rfl) ?_
  simp [hl0,g0,g1,g12,g13,hlt',hlt,hw1]
  exact ⟨⟨i+1,by simp,hlt⟩,by omega⟩
 ·have hge':¬ (i:Int)<(l.length:Int):=by omega
  simp [hl0,g0,g1,g12,g13,hge']
theorem Vda (l:List Int) (hl:l.length≤2^40):APure Tryz.prog 22 [.pl 1 (l.map fun x=>AV.int .i64 x),.pl 1 (l.map fun x=>AV.int .i64 x)] (.bool true):=by
 intro σ
 refine Yb Tryz.func22 rfl (Zb Tryz.func22 (by decide) rfl) ?_
 simp [Tryz.ntmps22]
 refine (Yem l hl).use ?_
 simp
end Ab
namespace Ab
open Go Go.RowKit Go.Proofs
structure At where
 wind:Nat
 got:List Bool
 course:List Int
def Ybj (b:Bk) (h:Nat) (x:At) (next:List At) (w:Nat):List At :=
 if Xbm b h w then (if next.any fun a=>decide (a.wind=w)&&a.got == Wb4 b h w x.got then next else next++[⟨w,Wb4 b h w x.got,x.course++[(w:Int)]⟩]) else next
def zeroAt:At:=⟨0,List.replicate 24 false,[]⟩
def Vb2 (w:Nat):List Nat:=(List.range 8).filter fun v=>Waj v w
def Ue5 (b:Bk) (h:Nat):List At:=if h=0 then (List.range 8).foldl (Ybj b h zeroAt) [] else []
def Wcp (b:Bk) (h:Nat) (now:List At):List At:=now.foldl (fun next x=>(Vb2 x.wind).foldl (Ybj b h x) next) (Ue5 b h)
def Wb5 (b:Bk):Nat→List At
 | 0=>[]
 | h+1=>Wcp b h (Wb5 b h)
def Ve3 (l:List At):List (List Bool × List Int):=l.foldl (fun out x=>if out.any fun e=>e.1 == x.got then out else out++[(x.got,x.course)]) []
def Uib (b:Bk):List (List Bool × List Int):=Ve3 (Wb5 b b.reads.length)
structure At.Ok (h:Nat) (x:At):Prop where
 wind:x.wind<8
 got:x.got.length=24
 course:x.course.length≤h
 ne:x.course≠[]
def Yia (b:Bk) (h:Nat) (l next:List At):List At:=l.foldl (fun next x=>(Vb2 x.wind).foldl (Ybj b h x) next) next
structure Fits (b:Bk) (real:List Nat):Prop where
 len:real.length=b.reads.length
 lt:∀ (h:Nat) (w:Nat),real[h]? = some w→w<8∧Xbm b h w=true
 near:∀ (h:Nat) (v w:Nat),real[h]? = some v→real[h+1]? = some w→Waj w v=true
end Ab
namespace Ab
open Go Go.RowKit Go.Proofs
def Zep (w:Nat) (g:List Bool):AV:=.agg (.int .i64 w::g.map AV.bool)
def Xco (l:List At):List (AV × AV):=l.map fun a=>(Zep a.wind a.got,.bool true)
end Ab
namespace Ab
open Go Go.RowKit Go.Proofs
def Wcg (l:List Int):List AV:=l.map fun x=>AV.int .i64 x
def Ziw (b:Bk) (n q h:Nat) (v:AV) (next:List At):Za:=[.cells [.int .i64 h],.map (Xco next),.cells [.mp (n+1)],.cells [v],.cells [.fn (.func 271) [Vfm b] []],
 .cells [.fn (.func 272) [] [.ptr (n+4) 0,.ptr n 0,.ptr q 0,.ptr (n+2) 0,.ptr (n+3) 0]]]
structure AccN (n:Nat) (v:AV) (next:List At) (g:Za) (L:List AV) (o:Option Nat):Prop where
 acc:∀ σ:Za,σ.length=n→Acc σ g 26 v L o
 len:L.length=next.length
 el:∀ (i:Nat) (a:At),next[i]? = some a→a.course≠[]∧∃ j,some j≠o∧L[i]? = some (.agg (.int .i64 a.wind::a.got.map AV.bool++[.arr 1 (n+j) 0 a.course.length]))∧g[j]? = some (.cells (Wcg a.course))
theorem AccN.nil (n:Nat) (g:Za):AccN n .nils [] g [] none:=⟨fun σ _=>.nil _ _ _,rfl,fun i a h=>by simp at h⟩
theorem AccN.more {n:Nat} {v:AV} {next:List At} {g:Za} {L:List AV} {o:Option Nat} (h:AccN n v next g L o) (y:Za):AccN n v next (g++y) L o :=
 ⟨fun σ hs=>(h.acc σ hs).more y,h.len,fun i a ha=>by
  obtain ⟨h1,j,h2,h3,h4⟩:=h.el i a ha
  exact ⟨h1,j,h2,h3,by rw [Qzl (Qzs.1 h4).1];exact h4⟩⟩
theorem AccN.snoc {n:Nat} {v v':AV} {next:List At} {g g':Za} {L:List AV} {o:Option Nat} (h:AccN n v next g L o) (Z:Za) (jc jo:Nat) (a:At) (hc:a.course≠[])
  (hz:Z[jc]? = some (.cells (Wcg a.course))) (hA:∀ σ:Za,σ.length=n→Acc σ g' 26 v' (L++[.agg (.int .i64 a.wind::a.got.map AV.bool++[.arr 1 (n+(g.length+jc)) 0 a.course.length])]) (some jo))
  (hk:∀ j,some j≠o→j<(g++Z).length→g'[j]? = (g++Z)[j]?) (ho:some jo=o∨some jo=some (g++Z).length) :
  AccN n v' (next++[a]) g' (L++[.agg (.int .i64 a.wind::a.got.map AV.bool++[.arr 1 (n+(g.length+jc)) 0 a.course.length])]) (some jo):=by
 have hjc:=(Qzs.1 hz).1
 have hol:∀ j,o=some j→j<g.length:=fun j e=>by
  have:=h.acc (List.replicate n .dead) (by simp)
  rw [e] at this
  exact this.lt
 refine ⟨hA,by simp [h.len],fun i b hb=>?_⟩
 rcases Qzn i next.length with hi | hi
 ·rw [Qzl hi] at hb
  obtain ⟨h1,j,h2,h3,h4⟩:=h.el i b hb
  have hj:=(Qzs.1 h4).1
  refine ⟨h1,j,?_,?_,?_⟩
  ·rcases ho with ho | ho
   ·rw [ho];exact h2
   ·rw [ho];intro e;simp at e;omega
  ·rw [Qzl (by rw [h.len];exact hi)];exact h3
  ·rw [hk j h2 (by simp;omega),Qzl hj];exact h4
 ·rw [Qzr hi] at hb
  have hi0:i - next.length=0:=by
   have:=(Qzs.1 hb).1
   simp at this
   omega
  rw [hi0] at hb
  simp at hb
  subst hb
  refine ⟨hc,g.length+jc,?_,?_,?_⟩
  ·rcases ho with ho | ho
   ·rw [ho]
    intro e
    have:=hol _ e.symm
    omega
   ·rw [ho];intro e;simp at e;omega
  ·rw [Qzr (by rw [h.len];exact hi),h.len,hi0];rfl
  ·rw [hk (g.length+jc) (fun e=>by have:=hol _ e.symm;omega) (by simp;omega),Qzr (by omega),Nat.add_sub_cancel_left];exact hz
def Keeps (g:Za) (o:Option Nat) (K:List (Nat × AObj)):Prop:=∀ p∈K,some p.1≠o∧g[p.1]? = some p.2
theorem Keeps.more {g:Za} {o:Option Nat} {K:List (Nat × AObj)} (h:Keeps g o K) (y:Za):Keeps (g++y) o K:=fun p hp=>⟨(h p hp).1,by
 have:=(h p hp).2
 rw [Qzl (Qzs.1 this).1];exact this⟩
theorem Keeps.snoc {g g':Za} {o:Option Nat} {K:List (Nat × AObj)} {jo:Nat} (h:Keeps g o K) (Z:Za) (hk:∀ j,some j≠o→j<(g++Z).length→g'[j]? = (g++Z)[j]?) (ho:some jo=o∨some jo=some (g++Z).length):Keeps g' (some jo) K:=fun p hp=>by
 obtain ⟨h1,h2⟩:=h p hp
 have hl:=(Qzs.1 h2).1
 refine ⟨?_,?_⟩
 ·rcases ho with ho | ho
  ·rw [ho];exact h1
  ·rw [ho];intro e;simp at e;omega
 ·rw [hk _ h1 (by simp;omega),Qzl hl];exact h2
attribute [local irreducible] aws awp aw1 Og Om Oc Oa Ogd Ov Ot awd Ua awh Xb Ogh Ohd awl Ogl Ohl awv Ogv Ohv Wb Vb QFn Zc QRo QBe ACode AYield
theorem Ufg (σ:Za):ACalls Tryz.prog 73 [.nils] σ fun v s=>v=.nils∧s=σ:=by
 refine Yb Tryz.func73 rfl (Zb Tryz.func73 (by decide) rfl) ?_
 simp [Tryz.ntmps73]
theorem Xdo (S:Za) (w:Nat):Xa Tryz.prog #[32,32] .nils (.pl 1 [.int .i64 w]) S=some (.arr 1 S.length 0 1,S++[.cells [.int .i64 w]]):=by simp
end Ab
namespace Ab
open Go Go.RowKit Go.Proofs
attribute [local irreducible] aws awp aw1 Og Om Oc Oa Ogd Ov Ot awd Ua awh Xb Ogh Ohd awl Ogl Ohl awv Ogv Ohv Wb Vb QFn Zc QRo QBe ACode AYield
end Ab
namespace Ab
open Go Go.RowKit
variable [Mode]
variable {P:Program}
def Yac (P:Program) (fn:Func) (R:AV→Za→Prop) (env:Env):List Nat→Za→Prop
 | [],σ=>match Up P fn.results.toList env.t σ with
  | some v=>R v σ
  | none=>False
 | r::m,σ=>σ[r]? = some .deferred∧Yac P fn R env m (σ.set r .dead)
def Vg (P:Program) (fn:Func) (R:AV→Za→Prop):Exit→Env→Za→Prop
 | .normal,env,σ | .ret,env,σ=>Yac P fn R env env.m σ
 | _,_,_=>False
theorem Zc0 {f:FuncId} {fn:Func} {c:Code} {args:List AV} {σ:Za} {R:AV→Za→Prop} (hf:P.funcs[f]? = some fn) (hb:fn.body=some c) (hen:Enters P f)
  (h:ACode P none c (Vg P fn R) { t:=te args fn.ntmps } σ):ACalls P f args σ R:=by
 refine .inl ⟨hen,fun C cargs hI hv=>?_⟩
 have hl:=hv.len
 refine callsIn_of_wp_marks hf hb trivial ?_ rfl
 have he:ER C { t:=te args fn.ntmps } { tmps:=cargs.toArray++Array.replicate (fn.ntmps - cargs.toArray.size) undef,defers:=[] }:=by
  refine ⟨?_,rfl,fun i r d h=>by simp at h⟩
  have h2:VRs C (List.replicate (fn.ntmps - args.length) .any) (List.replicate (fn.ntmps - args.length) undef):=⟨by simp,fun i x c hx hc=>by
   obtain ⟨_,hx⟩:=Qzs.1 hx
   simp at hx
   subst hx
   exact .any _⟩
  have:=hv.append h2
  simpa [hl,te] using this
 refine wpIn_mono (h C _ none hI he rfl) ?_
 rintro e a' w' ⟨C',env',σ',rfl,hE,hI',he',hq⟩
 have key:∀ (m:List Nat) (ds:List Deferred) (C2:Ctx) (σ2:Za),Ext C' C2→Inv C2 σ2→m.length=ds.length→(∀ (i r:Nat) (d:Deferred),m[i]? = some r→ds[i]? = some d→∃ b,C'.blk[r]? = some b∧d=⟨.collected b,#[]⟩) →
   Yac P fn R env' m σ2→LeavesInM Fence.wide 0 P fn a'.tmps (fun e w'=>∃ (v:Value) (C':Ctx) (av:AV) (σ':Za),e=.returned v∧C'.w=w'∧Ext C C'∧Inv C' σ'∧VR C' av v∧R av σ') ds .returning C2.w:=by
  intro m
  induction m with
  | nil =>
   intro ds C2 σ2 hE2 hI2 hm _ hq
   rw [List.eq_nil_of_length_eq_zero hm.symm]
   unfold Yac at hq
   split at hq
   ·rename_i v hv'
    obtain ⟨c,hc,hvr⟩:=Ycj hI2 (he'.ext hE2) hv'
    exact ⟨c,hc,c,C2,v,σ2,rfl,rfl,hE.trans hE2,hI2,hvr,hq⟩
   ·cases hq
  | cons r m ih =>
   intro ds C2 σ2 hE2 hI2 hm hmark hq
   obtain ⟨hd,hq⟩:=hq
   match ds,hm,hmark with
   | d::ds,hm,hmark =>
    obtain ⟨b,hb',rfl⟩:=hmark 0 r d rfl rfl
    have hb2:=hE2.blk_at hb'
    obtain ⟨hnp,c,hc,hR⟩:=hI2.live _ _ _ hb2 hd rfl
    cases hR
    refine ⟨by simp,.inl ⟨b,_,rfl,run_takeDeferred hc,?_⟩⟩
    rw [Wan]
    have hE4:=Ext.set (C:=C2) (o:=.deferred none) hc hnp rfl
    have hI4:=hI2.set (o':=.dead) (c':=.deferred none) hb2 hd rfl hc rfl (.gone _)
    exact ih ds _ _ (hE2.trans hE4) hI4 (by simpa using hm) (fun i r d h1 h2=>hmark (i+1) r d h1 h2) hq
 have fin:Yac P fn R env' env'.m σ'→LeavesInM Fence.wide 0 P fn a'.tmps (fun e w'=>∃ (v:Value) (C':Ctx) (av:AV) (σ':Za),e=.returned v∧C'.w=w'∧Ext C C'∧Inv C' σ'∧VR C' av v∧R av σ') a'.defers .returning C'.w :=
  fun h=>key env'.m a'.defers C' σ' (Ext.refl C') hI' he'.m.symm (fun i r d h1 h2=>he'.mark i r d h1 h2) h
 cases e with
 | normal=>exact fin hq
 | ret=>exact fin hq
 | _=>cases hq
theorem Yee {f:FuncId} {fn:Func} {c:Code} {args:List AV} {σ:Za} {R:AV→Za→Prop} (hf:P.funcs[f]? = some fn) (hb:fn.body=some c) (hen:Enters P f)
  (h:awp P none c (Vg P fn R) { t:=te args fn.ntmps } σ):ACalls P f args σ R:=Zc0 hf hb hen (Vk c h)
end Ab
namespace Ab
open Go Go.RowKit
variable [Mode]
variable {P:Program}
def barP (p:Nat→Bool) (σ:Za):Za:=σ.mapIdx fun r o=>if p r then o else .dead
theorem Wex {p:Nat→Bool} {σ:Za}:(barP p σ).length=σ.length:=by unfold barP;simp
theorem Yaf {p:Nat→Bool} {σ:Za} {r:Nat} {o:AObj} (h:σ[r]? = some o) (hp:p r=true):(barP p σ)[r]? = some o:=by
 unfold barP
 rw [List.getElem?_mapIdx,h]
 simp [hp]
theorem Xav {p:Nat→Bool} {σ:Za} {r:Nat} {o:AObj} (h:(barP p σ)[r]? = some o) (hl:o.live=true):σ[r]? = some o∧p r=true:=by
 unfold barP at h
 rw [List.getElem?_mapIdx,Qzm] at h
 obtain ⟨x,hx,rfl⟩:=h
 by_cases hp:p r=true
 ·rw [if_pos hp];exact ⟨hx,hp⟩
 ·rw [if_neg hp] at hl;cases hl
theorem Inv.barP {C:Ctx} {σ:Za} (hI:Inv C σ) (p:Nat→Bool):Inv C (barP p σ) :=
 ⟨by rw [Wex];exact hI.len,hI.glob,hI.base,hI.basep,hI.plt,fun r b o hr ho hl=>hI.live r b o hr (Xav ho hl).1 hl,
  fun r1 r2 b o1 o2 h1 h2 ho1 ho2 hl1 hl2=>hI.inj r1 r2 b o1 o2 h1 h2 (Xav ho1 hl1).1 (Xav ho2 hl2).1 hl1 hl2⟩
def Vw (p:Nat→Bool) (σ:Za) (x y:AV):Prop:=x=y∨Fz 0 (barP p σ) x y
theorem VR.vw {C:Ctx} {σ:Za} (hI:Inv C σ) {p:Nat→Bool} {x y:AV} {c:Value} (h:Vw p σ x y) (hv:VR C x c):VR (C.ice 0 (Ab.barP p σ)) y c:=by
 rcases h with rfl | h
 ·exact hv.ext (Ext.ice 0 _)
 ·exact (hv.frz (hI.barP p) h).ext (Ext.frz_ice 0 _)
structure View (p:Nat→Bool) (σ τ:Za):Prop where
 len:τ.length=σ.length
 live:∀ (r:Nat) (o':AObj),τ[r]? = some o'→o'.live=true→p r=false∧∃ o,σ[r]? = some o∧o.live=true∧(o'=o∨∃ cs cs',o=.cells cs∧o'=.cells cs'∧cs'.length=cs.length∧∀ (i:Nat) (x y:AV),cs[i]? = some x→cs'[i]? = some y→Vw p σ x y)
theorem Inv.view {C:Ctx} {σ τ:Za} {p:Nat→Bool} (hI:Inv C σ) (hV:View p σ τ):Inv (C.ice 0 (Ab.barP p σ)) τ:=by
 refine ⟨by rw [hV.len];exact hI.len,hI.glob,hI.base,fun b hb=>.inl (hI.basep b hb),fun b hb=>?_,fun r b o hr ho hl=>?_,fun r1 r2 b o1 o2 h1 h2 ho1 ho2 hl1 hl2=>?_⟩
 ·rcases hb with hb | ⟨r,o,_,h1,h2,h3⟩
  ·exact hI.plt b hb
  ·obtain ⟨_,c,hc,_⟩:=hI.live r b o h1 (Xav h2 h3).1 h3
   exact (Array.getElem?_eq_some_iff.1 hc).1
 ·obtain ⟨hp,o0,h0,hl0,hd⟩:=hV.live r o ho hl
  obtain ⟨hnp,c,hc,hR⟩:=hI.live r b o0 hr h0 hl0
  refine ⟨?_,c,hc,?_⟩
  ·rintro (hp' | ⟨r',o',g1,g2,g3,g4⟩)
   ·exact hnp hp'
   ·obtain ⟨k1,k2⟩:=Xav g3 g4
    have e:=hI.inj r r' b o0 o' hr g2 h0 k1 hl0 g4
    subst e
    rw [hp] at k2
    cases k2
  ·rcases hd with rfl | ⟨cs,cs',rfl,rfl,hlen,hz⟩
   ·exact hR.ext (Ext.ice 0 _)
   ·cases hR with
    | cells _ vs e lo hi q1 q2 q3 =>
     refine .cells cs' vs e lo hi (by rw [hlen];exact q1) (by first | exact q2 | (rw [hlen];exact q2)) fun i x v hx hv=>?_
     have hi':i<cs.length:=by have:=(Qzs.1 hx).1;omega
     exact (q3 i _ v (Qze hi') hv).vw hI (hz i _ x (Qze hi') hx)
 ·obtain ⟨_,o1',g1,k1,_⟩:=hV.live r1 o1 ho1 hl1
  obtain ⟨_,o2',g2,k2,_⟩:=hV.live r2 o2 ho2 hl2
  exact hI.inj r1 r2 b o1' o2' h1 h2 g1 g2 k1 k2
theorem ACode.view {rd:Option Nat} {c:Code} {Q:Exit→Env→Za→Prop} {u u':List AV} {m:List Nat} {σ τ:Za} (p:Nat→Bool) (hV:View p σ τ) (h:ACode P rd c Q { t:=u',m:=m } τ) (hl:u'.length=u.length)
  (hz:∀ (i:Nat) (x y:AV),u[i]? = some x→u'[i]? = some y→Vw p σ x y):ACode P rd c Q { t:=u,m:=m } σ:=by
 intro C a ro hI he hr
 have he':ER (C.ice 0 (barP p σ)) { t:=u',m:=m } a:=⟨⟨hl▸he.t.len,fun i y c hy hc=>by
  have hi:i<u'.length:=(Qzs.1 hy).1
  have hx:u[i]? = some (u[i]'(by omega)):=Qze (by omega)
  exact (he.t.at_ i _ c hx hc).vw hI (hz i _ y hx hy)⟩,he.m,fun i r d h1 h2=>he.mark i r d h1 h2⟩
 exact wpIn_mono (h (C.ice 0 (barP p σ)) a ro (hI.view hV) he' (hr.ext (Ext.ice 0 (barP p σ)))) fun _ _ _ hp=>hp.ext (Ext.ice 0 (barP p σ))
theorem ACalls.view {f:FuncId} {args args':List AV} {σ τ:Za} {R:AV→Za→Prop} (p:Nat→Bool) (hV:View p σ τ) (h:ACalls P f args' τ R) (hl:args'.length=args.length)
  (hz:∀ (i:Nat) (x y:AV),args[i]? = some x→args'[i]? = some y→Vw p σ x y):ACalls P f args σ R:=by
 have lent:∀ {C:Ctx} {cargs:List Value},Inv C σ→VRs C args cargs→VRs (C.ice 0 (barP p σ)) args' cargs:=by
  intro C cargs hI hv
  refine ⟨hl▸hv.len,fun i y c hy hc=>?_⟩
  have hi:=(Qzs.1 hy).1
  have hx:args[i]? = some (args[i]'(by omega)):=Qze (by omega)
  exact (hv.at_ i _ c hx hc).vw hI (hz i _ y hx hy)
 rcases h with h | h
 ·refine .inl ⟨h.1,fun C cargs hI hv=>(h.2 (C.ice 0 (barP p σ)) cargs (hI.view hV) (lent hI hv)).mono ?_⟩
  rintro e w' ⟨v,C',av,s,rfl,rfl,hE,hI',hv',hR⟩
  exact ⟨v,C',av,s,rfl,rfl,(Ext.ice 0 (barP p σ)).trans hE,hI',hv',hR⟩
 ·refine .inr fun C cargs hI hv=>?_
  obtain ⟨v,C',av,s,hr,hE,hI',hv',hR⟩:=h (C.ice 0 (barP p σ)) cargs (hI.view hV) (lent hI hv)
  exact ⟨v,C',av,s,hr,(Ext.ice 0 (barP p σ)).trans hE,hI',hv',hR⟩
theorem ACalls.viewR {f:FuncId} {args:List AV} {σ:Za} {R:AV→Za→Prop} (h:ACalls P f args σ fun v s=>∃ p τ v',View p s τ∧Vw p s v v'∧R v' τ):ACalls P f args σ R:=by
 rcases h with h | h
 ·refine .inl ⟨h.1,fun C cargs hI hv=>(h.2 C cargs hI hv).mono ?_⟩
  rintro e w' ⟨v,C',av,s,rfl,rfl,hE,hI',hv',p,τ,v',hV,hz,hR⟩
  exact ⟨v,C'.ice 0 (barP p s),v',τ,rfl,rfl,hE.trans (Ext.ice 0 _),hI'.view hV,hv'.vw hI' hz,hR⟩
 ·refine .inr fun C cargs hI hv=>?_
  obtain ⟨v,C',av,s,hr,hE,hI',hv',p,τ,v',hV,hz,hR⟩:=h C cargs hI hv
  exact ⟨v,C'.ice 0 (barP p s),v',τ,hr,hE.trans (Ext.ice 0 _),hI'.view hV,hv'.vw hI' hz,hR⟩
theorem Xci {rd:Option Nat} {c:Code} {Q:Exit→Env→Za→Prop} {env:Env} {σ:Za} (I:Env→Za→Prop) (μ:Env→Za→Nat) (h0:I env σ)
  (round:∀ env σ,I env σ→awp P rd c (Wb (fun env' σ'=>I env' σ'∧μ env' σ'<μ env σ) Q) env σ∨∃ (p:Nat→Bool) (τ:Za) (u':List AV),View p σ τ∧u'.length=env.t.length∧(∀ (i:Nat) (x y:AV),env.t[i]? = some x→u'[i]? = some y→Vw p σ x y)∧awp P rd c (Wb (fun env' σ'=>I env' σ'∧μ env' σ'<μ env σ) Q) { t:=u',m:=env.m } τ):@StC _ P rd ⟨.loop c⟩ ⟨Q⟩ env σ :=
 Zbr I μ h0 fun env σ hi=>by
  rcases round env σ hi with h | ⟨p,τ,u',hV,h1,h2,h3⟩
  ·exact Vk c h
  ·exact (Vk c h3).view p hV h1 h2
theorem Xa2 {p:Nat→Bool} {σ:Za} {u:List AV} {l:List (Nat × AV)} (h:∀ q∈l,Vw p σ (tg u q.1) q.2):∀ (i:Nat) (x y:AV),u[i]? = some x→(Zh u l)[i]? = some y→Vw p σ x y:=by
 unfold Zh
 suffices hh:∀ (l:List (Nat × AV)),(∀ q∈l,Vw p σ (tg u q.1) q.2)→∀ t:List AV,(∀ (i:Nat) (x y:AV),u[i]? = some x→t[i]? = some y→Vw p σ x y)→∀ (i:Nat) (x y:AV),u[i]? = some x→(l.foldl (fun t q=>ts t q.1 q.2) t)[i]? = some y→Vw p σ x y from
  hh l h _ fun i x y _ hy=>by
   rw [List.getElem?_replicate] at hy
   split at hy
   ·cases hy;exact .inr (.any _)
   ·cases hy
 intro l
 induction l with
 | nil=>intro _ t ht;exact ht
 | cons q l ih =>
  intro h t ht
  refine ih (fun q hq=>h q (List.mem_cons_of_mem _ hq)) _ fun i x y hx hy=>?_
  have hp:=h q (by simp)
  unfold ts at hy
  rw [List.getElem?_set] at hy
  split at hy
  ·rename_i e
   subst e
   split at hy
   ·cases hy
    unfold tg at hp
    rwa [List.getD_eq_getElem?_getD,hx] at hp
   ·cases hy
  ·exact ht i x y hx hy
def Zbp (n:Nat) (σ:Za) (r:Nat):Bool:=decide (n≤r)&&match σ[r]? with | some (.cells _)=>true | _=>false
def AObj.sleep:AObj→AObj
 | .deferred=>.deferred
 | _=>.dead
theorem View.sleep (S g:Za):View (Zbp S.length (S++g)) (S++g) (S++g.map AObj.sleep):=by
 refine ⟨by simp,fun r o' ho hl=>?_⟩
 rcases Qzn r S.length with h | h
 ·rw [Qzl h] at ho
  refine ⟨by unfold Zbp;simp;omega,o',by rw [Qzl h];exact ho,hl,.inl rfl⟩
 ·rw [Qzr h,Qzp,Qzm] at ho
  obtain ⟨x,hx,rfl⟩:=ho
  cases x with
  | deferred =>
   have e:(S++g)[r]? = some .deferred:=by rw [Qzr h];exact hx
   exact ⟨by unfold Zbp;rw [e];simp,_,e,rfl,.inl rfl⟩
  | _=>simp [AObj.sleep,AObj.live] at hl
theorem Ygo {fn:Func} {R:AV→Za→Prop} {env:Env}:∀ (m:List Nat) (σ:Za),m.Nodup→(∀ r∈m,σ[r]? = some .deferred) →
  (∀ σ':Za,σ'.length=σ.length→(∀ r,r∉m→σ'[r]? = σ[r]?)→Yac P fn R env [] σ')→Yac P fn R env m σ:=by
 intro m
 induction m with
 | nil=>intro σ _ _ hR;exact hR σ rfl fun _ _=>rfl
 | cons r m ih =>
  intro σ hn hd hR
  rw [List.nodup_cons] at hn
  refine ⟨hd r (by simp),ih _ hn.2 (fun s hs=>?_) fun σ' hl hk=>hR σ' (by simpa using hl) fun s hs=>?_⟩
  ·have hne:r≠s:=fun e=>hn.1 (e▸hs)
   rw [List.getElem?_set_ne hne]
   exact hd s (by simp [hs])
  ·rw [List.mem_cons,not_or] at hs
   rw [hk s hs.2,List.getElem?_set_ne (fun e=>hs.1 e.symm)]
theorem Acc.vw {σ g:Za} {v:AV} {l:List Int} {o:Option Nat} (h:Acc σ g 1 v (l.map fun x=>AV.int .i64 x) o) {p:Nat→Bool} (hp:∀ r,σ.length≤r→p r=true):Vw p (σ++g) v (.pl 1 (l.map fun x=>AV.int .i64 x)):=by
 have hv:=h.val
 cases o with
 | none =>
  obtain ⟨rfl,e⟩:=hv
  rw [e]
  exact .inr (.nils_pl 1)
 | some jo =>
  obtain ⟨rfl,hjo⟩:=hv
  have hfl:(l.map fun x=>AV.int .i64 x).flatMap AV.cells=l.map fun x=>AV.int .i64 x:=by
   clear h hjo
   induction l with
   | nil=>rfl
   | cons w t ih=>rw [List.map_cons,List.flatMap_cons,ih];rfl
  rw [hfl] at hjo
  have hT:(σ++g)[σ.length+jo]? = some (.cells (l.map fun x=>AV.int .i64 x)):=by rw [Qzr (by omega),Nat.add_sub_cancel_left];exact hjo
  refine .inr (.arr 1 _ 0 _ (l.map fun x=>AV.int .i64 x) (fun i _=>((l.map fun x=>AV.int .i64 x)[i]?).getD .any) (Nat.zero_le _) (Yaf hT (hp _ (by omega))) (fun i x hx=>?_) fun i x hx j y hy=>?_)
  ·obtain ⟨z,_,rfl⟩:=List.mem_map.1 (Qzg hx)
   refine ⟨rfl,fun j y hy=>?_⟩
   cases j with
   | zero =>
    simp [AV.cells] at hy
    subst hy
    exact ⟨rfl,by rw [show (0+i)*1+0=i by omega,hx];rfl⟩
   | succ j=>simp [AV.cells] at hy
  ·obtain ⟨z,_,rfl⟩:=List.mem_map.1 (Qzg hx)
   cases j with
   | zero =>
    simp [AV.cells] at hy
    subst hy
    rw [hx]
    exact .int _ _
   | succ j=>simp [AV.cells] at hy
section
variable {rd:Option Nat} {a b c:Code} {Q:Exit→Env→Za→Prop} {env:Env} {σ:Za} {n:Nat}
theorem Xbk (I:Env→Za→Prop) (h2:∀ (env:Env) (σ:Za),I env σ→ACode P rd (Yh n c).2 Q env σ) (h1:awp P rd (Yh n c).1 (Wb I Q) env σ):ACode P rd c Q env σ:=by
 induction n generalizing c env σ with
 | zero =>
  rw [Xbj] at h1
  have:=h2 _ _ h1
  have e:(Yh 0 c).2=c:=by cases c<;>rfl
  rw [e] at this
  exact this
 | succ n ih =>
  have skip:(Yh (n+1) c)=(.skip,c)→ACode P rd c Q env σ:=by
   intro e
   rw [e] at h1 h2
   exact h2 _ _ h1
  cases c with
  | seq a b =>
   refine Xaf ((Vk _ (Xa7▸h1)).mono fun e env s hq=>?_)
   cases e with
   | normal=>exact ih (fun env σ h=>h2 env σ h) hq
   | _=>exact hq
  | _=>exact skip rfl
end
theorem View.rows {S g:Za} {C C':List AV} (hl:C'.length=C.length) (hz:∀ (i:Nat) (x y:AV),C[i]? = some x→C'[i]? = some y→Vw (fun r=>decide (S.length+1≤r)) (S++(.cells C::g)) x y) :
  View (fun r=>decide (S.length+1≤r)) (S++(.cells C::g)) (S++(.cells C'::g.map fun _=>AObj.dead)):=by
 refine ⟨by simp,fun r o' ho hlv=>?_⟩
 rcases Qzn r S.length with h | h
 ·rw [Qzl h] at ho
  exact ⟨by simp;omega,o',by rw [Qzl h];exact ho,hlv,.inl rfl⟩
 ·rw [Qzr h] at ho
  cases hr:r - S.length with
  | zero =>
   rw [hr] at ho
   simp at ho
   subst ho
   exact ⟨by simp;omega,.cells C,by rw [Qzr h,hr];rfl,rfl,.inr ⟨C,C',rfl,rfl,hl,hz⟩⟩
  | succ k =>
   rw [hr] at ho
   simp only [List.getElem?_cons_succ,Qzp,Qzm] at ho
   obtain ⟨x,_,rfl⟩:=ho
   cases hlv
end Ab
namespace Ab
open Go Go.RowKit Go.Proofs
abbrev Ends:=List (List Bool × List Int)
def Ub6 (l:Ends) (k:Nat):Nat:=(l.filter fun e=>e.1[k]?.getD false).length
def Wcx (l:Ends) (h n:Nat):Int:=if Ub6 l (h*4+n)=l.length then 1 else if Ub6 l (h*4+n)=0 then 2 else 0
def Zh8 (l:Ends) (hs ns:Nat):List (List Int):=(List.range hs).map fun h=>(List.range ns).map fun n=>Wcx l h n
def cmpL:List Int→List Int→Int
 | [],[]=>0
 | [],_::_=>-1
 | _::_,[]=>1
 | x::a,y::b=>if Wo x y=0 then cmpL a b else Wo x y
def Xe4 (own best:List Int):Bool:=decide (own.length<best.length)||decide (own.length=best.length)&&decide (cmpL own best<0)
def Wgq (cs:List Cm) (l:Ends) (best:List Int):List Int:=l.foldl (fun best x=>if Xe4 (Ubh cs x.1 cs.length) best then Ubh cs x.1 cs.length else best) best
def Xix (cs:List Cm):Ends→List Int
 | []=>[]
 | e::l=>Wgq cs l (Ubh cs e.1 cs.length)
theorem Xb1:∀ (w:Nat),w<8→∀ (d:Int),(d=-1∨d=0∨d=1)→Waj ((w+d) % 8) w=true∧Waj w ((w+d) % 8)=true:=by
 intro w hw d hd
 have:w=0∨w=1∨w=2∨w=3∨w=4∨w=5∨w=6∨w=7:=by omega
 rcases this with rfl | rfl | rfl | rfl | rfl | rfl | rfl | rfl<;>rcases hd with rfl | rfl | rfl<;>decide
end Ab
namespace Ab
open Go Go.RowKit Go.Proofs
theorem Wfx (a b:List Int) (i:Nat) (ha:i<a.length) (hb:i<b.length):cmpL (a.drop i) (b.drop i)=if Wo a[i] b[i]=0 then cmpL (a.drop (i+1)) (b.drop (i+1)) else Wo a[i] b[i]:=by
 rw [List.drop_eq_getElem_cons ha,List.drop_eq_getElem_cons hb,cmpL]
attribute [local irreducible] aws awp aw1 Og Om Oc Oa Ogd Ov Ot awd Ua awh Xb Ogh Ohd awl Ogl Ohl awv Ogv Ohv Wb Vb QFn Zc QRo QBe ACode AYield
theorem Wfj (a b:List Int) (ha:a.length≤2^40) (hb:b.length≤2^40):APure Tryz.prog 70 [.pl 1 (a.map fun x=>AV.int .i64 x),.pl 1 (b.map fun x=>AV.int .i64 x)] (.int .i64 (cmpL a b)):=by
 intro σ
 generalize hX:cmpL a b=X
 refine Yb Tryz.func70 rfl (Zb Tryz.func70 (by decide) rfl) ?_
 simp [Tryz.ntmps70]
 refine Wd (fun env σ'=>∃ (u:List AV) (i:Nat),env={ t:=u }∧u.length=36∧tg u 0=.pl 1 (a.map fun x=>AV.int .i64 x)∧tg u 1=.pl 1 (b.map fun x=>AV.int .i64 x)∧tg u 9=.pl 1 (a.map fun x=>AV.int .i64 x)∧tg u 10=.int .i64 a.length∧tg u 11=.int .i64 i∧σ'=σ∧i≤a.length∧cmpL (a.drop i) (b.drop i)=X∧i≤b.length)
  (fun env _=>match tg env.t 11 with | .int _ i=>a.length - i.toNat | _=>0) ⟨_,0,rfl,by simp,by simp,by simp,by simp,by simp,by simp,rfl,by omega,by simpa using hX,by omega⟩ ?_
 rintro env σ' ⟨u,i,rfl,hl0,g0,g1,g9,g10,g11,rfl,hi,hd,hib⟩
 rcases Qzn i a.length with hlt | hge
 ·have hlt':(i:Int)<(a.length:Int):=by omega
  rcases Qzn i b.length with hbt | hbge
  ·have hbt':¬ (b.length:Int)≤(i:Int):=by omega
   rw [Wfx a b i hlt hbt] at hd
   simp [hl0,g0,g1,g9,g10,g11,hlt',hlt,hbt,hbt']
   refine (Ybs _ _).use ?_
   have hw1:=w64 (n:=(i:Int)+1) (by omega) (by omega)
   by_cases hc:Wo a[i] b[i]=0
   ·rw [if_pos hc] at hd
    simp [hl0,g0,g1,g9,g10,g11,hc,hw1]
    exact ⟨⟨i+1,by simp,hlt,hd,hbt⟩,by omega⟩
   ·rw [if_neg hc] at hd
    rw [hd] at hc
    simp [hl0,g0,g1,g9,g10,g11,hc,hd]
  ·have hbge':(b.length:Int)≤(i:Int):=by omega
   rw [List.drop_eq_getElem_cons hlt,List.drop_eq_nil_of_le hbge,cmpL] at hd
   simp [hl0,g0,g1,g9,g10,g11,hlt',hlt,hbge',← hd]
 ·have hge':¬ (i:Int)<(a.length:Int):=by omega
  obtain rfl:i=a.length:=by omega
  rw [List.drop_eq_nil_of_le hge] at hd
  rcases Qzn a.length b.length with hbt | hbge
  ·have hbt':(a.length:Int)<(b.length:Int):=by omega
   rw [List.drop_eq_getElem_cons hbt,cmpL] at hd
   simp [hl0,g0,g1,g9,g10,g11,hge',hbt',← hd]
  ·have hbt':¬ (a.length:Int)<(b.length:Int):=by omega
   rw [List.drop_eq_nil_of_le hbge,cmpL] at hd
   simp [hl0,g0,g1,g9,g10,g11,hge',hbt',← hd]
end Ab

/-
  Texts packed for a claim.
-/
import Derived.Test.YtcoikmapjepdjaaGreatDoorE00
import Derived.Test.YtcoikmapjepdjaaGreatDoorE21
import Derived.Test.YtcoikmapjepdjaaGreatDoorE29
import Derived.Test.YtcoikmapjepdjaaGreatDoorE34
set_option linter.all false
namespace Ab
open Go Go.RowKit Go.Proofs
def Us (l:List Bool):List AV:=l.map AV.bool
def Vq (men:List Bool) (cs:List Int):List Bool:=cs.foldl (fun m c=>m.set c.toNat true) men
def Wv (rs:List (Int × List Int)) (l:List Nat):List Bool:=l.foldl (fun m i=>Vq m ((rs[i]?.map Prod.snd).getD [])) [false,false,false,false]
theorem Uaw:∀ (cs:List Int) (men:List Bool),(Vq men cs).length=men.length
 | [],_=>rfl
 | c::cs,men=>by unfold Vq;rw [List.foldl_cons];exact (Uaw cs _).trans (by simp)
theorem Vcl:∀ (cs:List Int) (men:List Bool) (m:Nat),m<men.length→(∀ c∈cs,0≤c)→(Vq men cs)[m]? = some (men[m]?.getD false||decide ((m:Int)∈cs))
 | [],men,m,h,_=>by unfold Vq;rw [List.foldl_nil,Qze h];simp
 | c::cs,men,m,h,hc=>by
  have hc0:=hc c (by simp)
  have ih:=Vcl cs (men.set c.toNat true) m (by simpa using h) fun x hx=>hc x (by simp [hx])
  unfold Vq at ih ⊢
  rw [List.foldl_cons,ih,List.getElem?_set]
  by_cases e:c.toNat=m
  ·have e':(m:Int)=c:=by omega
   rw [if_pos e,if_pos (by omega)]
   simp [e']
  ·have e':¬ (m:Int)=c:=by omega
   rw [if_neg e]
   simp [e']
theorem Vg9 (rs:List (Int × List Int)) (l:List Nat) (i:Nat):Wv rs (l++[i])=Vq (Wv rs l) ((rs[i]?.map Prod.snd).getD []):=by
 unfold Wv;rw [List.foldl_append];rfl
theorem Ybb (rs:List (Int × List Int)) (l:List Nat):(Wv rs l).length=4:=by
 have:∀ (l:List Nat) (m:List Bool),(l.foldl (fun m i=>Vq m ((rs[i]?.map Prod.snd).getD [])) m).length=m.length:=by
  intro l
  induction l with
  | nil=>intro m;rfl
  | cons i l ih=>intro m;rw [List.foldl_cons,ih,Uaw]
 exact this l _
theorem Zgo {rs:List (Int × List Int)} (hpos:∀ r∈rs,∀ c∈r.2,0≤c) (l:List Nat):Wv rs l=Yao rs l:=by
 have key:∀ (l:List Nat) (m:List Bool),m.length=4→∀ k:Nat,k<4→(l.foldl (fun m i=>Vq m ((rs[i]?.map Prod.snd).getD [])) m)[k]? = some (m[k]?.getD false||l.any fun i=>(rs[i]?.map fun r=>decide ((k:Int)∈r.2)).getD false):=by
  intro l
  induction l with
  | nil=>intro m hm k hk;rw [List.foldl_nil,Qze (by omega)];simp
  | cons i l ih =>
   intro m hm k hk
   rw [List.foldl_cons,ih _ (by rw [Uaw];exact hm) k hk,Vcl _ _ _ (by omega) (fun c hc=>by
    cases e:rs[i]? with
    | none=>rw [e] at hc;cases hc
    | some r=>rw [e] at hc;exact hpos r (Qzg e) c hc)]
   rw [List.any_cons,Option.getD_some,Bool.or_assoc]
   congr 2
   cases e:rs[i]? with
   | none=>simp
   | some r=>simp
 apply List.ext_getElem?
 intro k
 rcases Qzn k 4 with h | h
 ·have:=key l [false,false,false,false] rfl k h
  unfold Wv
  rw [this]
  unfold Yao
  rw [Qzp,List.getElem?_range h,Option.map_some]
  match k,h with
  | 0,_=>simp
  | 1,_=>simp
  | 2,_=>simp
  | 3,_=>simp
 ·rw [List.getElem?_eq_none (by rw [Ybb];exact h),List.getElem?_eq_none (by simp [Yao];exact h)]
theorem Yf3 {n:Nat} {a b:Code}:(Yh (n+1) (.seq a b)).2=(Yh n b).2:=rfl
theorem We0 {c:Code}:(Yh 0 c).2=c:=by cases c<;>rfl
def Uu (rs:List (Int × List Int)) (i:Nat):Int:=(rs[i]?.map Prod.fst).getD 0
def Ybd (σ:Za) (v:AV) (l:List Int):Prop:=(v=.nils∧l=[])∨∃ k,v=.arr 1 k 0 l.length∧σ[k]? = some (.cells (Ya l))
def Wg (l:List Nat):List Int:=l.map fun i:Nat=>(i:Int)
def BdA (b:Bx) (σ:Za) (q:Nat) (l:List Nat) (env:Env) (σ':Za):Prop:=∃ (u:List AV) (va:AV) (o:Option Nat) (g:Za),env={ t:=u }∧u.length=65∧tg u 5=va∧tg u 6=.ptr σ.length 0∧σ'=σ++(.cells (Us (Wv b.rs l))::g)∧Acc (σ++[zFe]) g 1 va (Ya (l.map (Uu b.rs))) o
def BdL (b:Bx) (σ:Za) (q:Nat) (l:List Nat) (k:Nat) (env:Env) (σ':Za):Prop:=∃ (u:List AV) (i:Nat) (va:AV) (o:Option Nat) (g:Za),env={ t:=u }∧u.length=65∧tg u 0=.ptr q 0∧tg u 5=va∧tg u 6=.ptr σ.length 0∧tg u 14=.arr 1 k 0 l.length∧tg u 15=.int .i64 l.length∧tg u 16=.int .i64 i∧i≤l.length∧σ'=σ++(.cells (Us (Wv b.rs (l.take i)))::g)∧Acc (σ++[zFe]) g 1 va (Ya ((l.take i).map (Uu b.rs))) o
def BdM (b:Bx) (σ:Za) (q:Nat) (l:List Nat) (k i:Nat) (L:List Int) (va:AV) (men:List Bool) (g:Za) (env:Env) (σ':Za):Prop:=∃ (u:List AV) (m:Nat),env={ t:=u }∧u.length=65∧tg u 0=.ptr q 0∧tg u 5=va∧tg u 6=.ptr σ.length 0∧tg u 14=.arr 1 k 0 l.length∧tg u 15=.int .i64 l.length∧tg u 16=.int .i64 i∧tg u 38=.pl 1 (Ya L)∧tg u 39=.int .i64 L.length∧tg u 40=.int .i64 m∧m≤L.length∧σ'=σ++(.cells (Us (Vq men (L.take m)))::g)
attribute [local irreducible] aws awp aw1 Og Om Oc Oa Ogd Ov Ot awd Ua awh Xb Ogh Ohd awl Ogl Ohl awv Ogv Ohv Wb Vb QFn Zc Vg QRo QBe Yf Yg ACode AYield
set_option maxHeartbeats 8000000 in
theorem Ydt (b:Bx) (h:b.Ok) (σ:Za) (q:Nat) (hq:σ[q]? = some (.cells (Xc b))) (l:List Nat) (hl:∀ i∈l,i<b.rounds.length) (hlen:l.length≤7) (v:AV) (hv:Ybd σ v (Wg l)) (R:AV→Za→Prop)
  (h2:∀ (env:Env) (s:Za),BdA b σ q l env s→ACode Tryz.prog none (Yh 4 (Tryz.f69.body.getD .skip)).2 (QFn Tryz.prog Tryz.f69 R) env s) :
  ACalls Tryz.prog 69 [.ptr q 0,v] σ R:=by
 refine Xcb 4 (BdA b σ q l) Tryz.func69 rfl (Zb Tryz.func69 (by decide) rfl) ?_ ?_
 ·have hql:=(Qzs.1 hq).1
  have hqX:∀ X:Za,(σ++X)[q]? = some (.cells (Xc b)):=fun X=>by rw [Qzl hql];exact hq
  have hnl:(Wg l).length=l.length:=by simp [Wg]
  have hfew:=h.few
  rcases hv with ⟨rfl,hl0⟩ | ⟨k,rfl,hk⟩
  ·obtain rfl:l=[]:=by
    cases l with
    | nil=>rfl
    | cons x l=>simp [Wg] at hl0
   simp [-Xa,Tryz.ntmps69]
   refine Wd (fun env σ'=>∃ (u:List AV),env={ t:=u }∧u.length=65∧tg u 5=.nils∧tg u 6=.ptr σ.length 0∧tg u 15=.int .i64 0∧tg u 16=.int .i64 0∧σ'=σ++[.cells [.bool false,.bool false,.bool false,.bool false]]) (fun _ _=>0) ⟨_,rfl,by simp,by simp,by simp,by simp,by simp,rfl⟩ ?_
   rintro env _ ⟨u,rfl,hl1,g5,g6,g15,g16,rfl⟩
   simp [-Xa,hl1,g5,g6,g15,g16]
   exact ⟨_,.nils,none,[],rfl,by simp [hl1],by simp [hl1,g5],by simp [hl1,g6],rfl,by simpa [Ya] using Acc.nil _ _ _⟩
  ·rw [hnl]
   have hkl:=(Qzs.1 hk).1
   have hkX:∀ X:Za,(σ++X)[k]? = some (.cells (Ya (Wg l))):=fun X=>by rw [Qzl hkl];exact hk
   have hil:(Ya (Wg l)).length=l.length:=by simp [Ya,Wg]
   simp [-Xa,Tryz.ntmps69]
   refine Wd (BdL b σ q l k) (fun env _=>match tg env.t 16 with | .int _ i=>l.length - i.toNat | _=>0) ⟨_,0,.nils,none,[],rfl,by simp,by simp,by simp,by simp,by simp,by simp,by simp,by omega,by simp [Wv,Us],by simpa [Ya] using Acc.nil _ _ _⟩ ?_
   rintro env _ ⟨u,i,va,o,g,rfl,hl1,g0,g5,g6,g14,g15,g16,hi,rfl,hA⟩
   rcases Qzn i l.length with hlt | hge
   ·have hlt':(i:Int)<(l.length:Int):=by omega
    have hw:=w64 (n:=(i:Int)+1) (by omega) (by omega)
    obtain ⟨x,hx⟩:∃ x,l[i]=x:=⟨_,rfl⟩
    have hxm:x<b.rounds.length:=hl x (hx▸List.getElem_mem hlt)
    have hxI:(x:Int)<(b.rounds.length:Int):=by omega
    have hxx:(Ya (Wg l))[i]'(by omega)=.int .i64 x:=by simp [Ya,Wg,hx]
    obtain ⟨r,hr⟩:∃ r,b.rounds[x]=r:=⟨_,rfl⟩
    have ok:r.Ok b.criers:=hr▸h.each _ (List.getElem_mem hxm)
    have hms:=ok.short h.c4
    have hc4:=h.c4
    have hfl:(Ya (Zl b)).length=b.rounds.length:=by simp [Ya,Zl]
    have hfx:(Ya (Zl b))[x]'(by omega)=.int .i64 (b.fee r):=by simp [Ya,Zl,hr]
    have hrl:x<(b.rounds.map Wc).length:=by simpa using hxm
    have hix:(b.rounds.map Wc)[x]'hrl=.agg [.int .i64 r.words,.int .i64 r.stands,.pl 1 (Ya r.may)]:=by simp [hr,Wc]
    have hml:(Ya r.may).length=r.may.length:=by simp [Ya]
    have hri:b.rs[x]? = some (b.fee r,r.may):=by simp [Bx.rs,Qze hxm,hr]
    have htk:l.take (i+1)=l.take i++[x]:=by rw [Qzt hlt,hx]
    have hmen:Wv b.rs (l.take (i+1))=Vq (Wv b.rs (l.take i)) r.may:=by rw [htk,Vg9,hri];rfl
    have hlenm:=Ybb b.rs (l.take i)
    obtain ⟨men,hme⟩:∃ men,Wv b.rs (l.take i)=men:=⟨_,rfl⟩
    rw [hme] at hmen hlenm ⊢
    obtain ⟨v',g',o',he,hA',_,_,_⟩:=(hA.base (σ':=σ++[.cells (Us men)]) (by simp)).push (P:=Tryz.prog) (t:=32) (e:=3) (ag:=false) (x:=.int .i64 (b.fee r)) (by simp) (by simp) (by simp) (by omega) ⟨rfl,by simp [AV.cells,AV.one]⟩ (by simp [Ya];omega)
    have hsn:Ya ((l.take i).map (Uu b.rs))++[.int .i64 (b.fee r)]=Ya ((l.take (i+1)).map (Uu b.rs)):=by rw [htk];simp [Ya,Uu,hri]
    rw [hsn] at hA'
    rw [show (σ++[AObj.cells (Us men)]).length+g.length=σ.length+(g.length+1) by simp;omega] at he
    simp [-Xa,AV.cells] at he
    have hlt1:i+1≤l.length:=hlt
    simp [-Xa,hl1,g0,g5,g6,g14,g15,g16,hlt,hlt',hlt1,hkX,hil,hxx,hqX,Xc,hxI,hxm,hfl,hfx]
    rw [he,Wl]
    simp [-Xa,hl1,g0,g5,g6,g14,g15,g16,hlt,hlt',hlt1,hkX,hil,hxx,hqX,Xc,hxI,hxm,hfl,hfx,hrl,hix,hml]
    refine Wd (BdM b σ q l k i r.may v' men g') (fun env _=>match tg env.t 40 with | .int _ i=>r.may.length - i.toNat | _=>0) ⟨_,0,rfl,by simp [hl1],by simp [hl1,g0],by simp [hl1],by simp [hl1,g6],by simp [hl1,g14],by simp [hl1,g15],by simp [hl1,g16],by simp [hl1],by simp [hl1],by simp [hl1],by omega,by simp [Vq]⟩ ?_
    clear hl1 g0 g5 g6 g14 g15 g16
    rintro env _ ⟨u,m,rfl,hl1,g0,g5,g6,g14,g15,g16,g38,g39,g40,hm,rfl⟩
    rcases Qzn m r.may.length with hlt2 | hge2
    ·have hlt2':(m:Int)<(r.may.length:Int):=by omega
     have hw2:=w64 (n:=(m:Int)+1) (by omega) (by omega)
     obtain ⟨c,hc⟩:∃ c,r.may[m]=c:=⟨_,rfl⟩
     have hcm:=ok.mem c (hc▸List.getElem_mem hlt2)
     have hcx:(Ya r.may)[m]'(by omega)=.int .i64 c:=by simp [Ya,hc]
     have hsn2:Vq men (r.may.take (m+1))=(Vq men (r.may.take m)).set c.toNat true:=by
      rw [Qzt hlt2,hc];unfold Vq;rw [List.foldl_append];rfl
     have hlm2:=Uaw (r.may.take m) men
     obtain ⟨men2,hme2⟩:∃ men2,Vq men (r.may.take m)=men2:=⟨_,rfl⟩
     rw [hme2] at hsn2 hlm2 ⊢
     obtain ⟨c,rfl⟩:∃ c':Nat,c=c':=⟨c.toNat,by omega⟩
     rw [Int.toNat_natCast] at hsn2
     have hc4':c+1≤4:=by omega
     have hcI:(c:Int)<4:=by omega
     have hbl:(Us men2).length=4:=by simp [Us];omega
     have hbs:List.take c (Us men2)++AV.bool true::List.drop (c+1) (Us men2)=Us (men2.set c true):=by
      unfold Us
      rw [List.map_set,List.set_eq_take_append_cons_drop,if_pos (by simp;omega)]
     simp [-Xa,hl1,g0,g5,g6,g14,g15,g16,g38,g39,g40,hlt2,hlt2',hml,hcx,hcI,hc4',hbl]
     rw [hw2,hbs,← hsn2]
     exact ⟨⟨_,m+1,rfl,by simp [hl1],by simp [hl1,g0],by simp [hl1,g5],by simp [hl1,g6],by simp [hl1,g14],by simp [hl1,g15],by simp [hl1,g16],by simp [hl1,g38],by simp [hl1,g39],by simp [hl1],hlt2,rfl⟩,by omega⟩
    ·obtain rfl:m=r.may.length:=by omega
     rw [List.take_length,← hmen]
     simp [-Xa,hl1,g0,g5,g6,g14,g15,g16,g38,g39,g40,hw]
     exact ⟨⟨_,i+1,v',o',g',rfl,by simp [hl1],by simp [hl1,g0],by simp [hl1,g5],by simp [hl1,g6],by simp [hl1,g14],by simp [hl1,g15],by simp [hl1],hlt,rfl,hA'.base (by simp)⟩,by omega⟩
   ·obtain rfl:i=l.length:=by omega
    rw [List.take_length] at hA
    simp [-Xa,hl1,g0,g5,g6,g14,g15,g16]
    exact ⟨_,va,o,g,rfl,by simp [hl1],by simp [hl1,g5],by simp [hl1,g6],rfl,hA⟩
 ·exact h2
end Ab
namespace Ab
open Go Go.RowKit Go.Proofs
def Wu (l:List Bool):Int:=((l.filter id).length:Nat)
theorem Za6 {l:List Bool} {i:Nat} {b:Bool} (h:l[i]? = some b):Wu (l.take (i+1))=Wu (l.take i)+if b=true then 1 else 0:=by
 obtain ⟨hi,hb⟩:=Qzs.1 h
 unfold Wu
 rw [Qzt hi,List.filter_append,List.length_append,hb]
 cases b<;>simp
theorem Wax (l:List Bool) (i:Nat):0≤Wu (l.take i)∧Wu (l.take i)≤l.length:=by
 unfold Wu
 have h1:=List.length_filter_le id (l.take i)
 have h2:=List.length_take (i:=i) (l:=l)
 omega
attribute [local irreducible] aws awp aw1 Og Om Oc Oa Ogd Ov Ot awd Ua awh Xb Ogh Ohd awl Ogl Ohl awv Ogv Ohv Wb Vb QFn Zc Vg QRo QBe Yf Yg ACode AYield
set_option maxHeartbeats 8000000 in
theorem Ud0 (b:Bx) (h:b.Ok) (σ:Za) (q:Nat) (hq:σ[q]? = some (.cells (Xc b))) (l:List Nat) (hl:∀ i∈l,i<b.rounds.length) (hlen:l.length≤7) (v:AV) (hv:Ybd σ v (Wg l)) :
 ACalls Tryz.prog 69 [.ptr q 0,v] σ fun w s=>w=.int .i64 (Ur b.rs l)∧s=σ:=by
 refine ACalls.forgetT ?_
 refine Ydt b h σ q hq l hl hlen v hv _ ?_
 rintro env _ ⟨u,va,o,g,rfl,hl1,g5,g6,rfl,hA⟩
 have hpos:∀ r∈b.rs,∀ c∈r.2,0≤c:=fun r hr c hc=>by
  obtain ⟨x,hx,rfl⟩:=List.mem_map.1 hr
  exact ((h.each x hx).mem c hc).1
 have hmB:=Zgo hpos l
 have hml:=Ybb b.rs l
 obtain ⟨men,hme⟩:∃ men,Wv b.rs l=men:=⟨_,rfl⟩
 have hfee:∀ x∈l.map (Uu b.rs),0≤x∧x≤100000:=fun x hx=>by
  obtain ⟨i,hi,rfl⟩:=List.mem_map.1 hx
  have hil:=hl i hi
  have:Uu b.rs i=b.fee b.rounds[i]:=by simp [Uu,Bx.rs,Qze hil]
  have:=Bx.fee_le h (h.each _ (List.getElem_mem hil))
  omega
 have cS:=Xbo (Xc6 (l.map (Uu b.rs)) (by simp;omega) hfee) (τ:=σ++(.cells (Us men)::g)) (args':=[va]) (FzL.cons_iff.2 ⟨Ua2 hA (Nat.zero_le _) fun j x hj=>by
  rw [Qzr (by simp;omega),show (σ++[zFe]).length+j - σ.length=j+1 by simp;omega]
  simpa using hj,FzL.nil_iff.2 trivial⟩)
 have hB:Ur b.rs l=if ((men.filter id).length:Int)=0 then 0 else (Zg (l.map (Uu b.rs))+(men.filter id).length - 1).tdiv (men.filter id).length:=by
  unfold Ur
  rw [← hmB,hme]
  rfl
 have hsb:0≤Zg (l.map (Uu b.rs))∧Zg (l.map (Uu b.rs))≤100000*7:=by
  have:∀ L:List Int,(∀ x∈L,0≤x∧x≤100000)→0≤Zg L∧Zg L≤100000*(L.length:Int):=by
   intro L
   induction L with
   | nil=>intro _;simp [Zg]
   | cons x L ih =>
    intro hL
    have h1:=ih fun y hy=>hL y (by simp [hy])
    have h2:=hL x (by simp)
    rw [Zaz]
    simp
    omega
  have:=this _ hfee
  simp at this
  omega
 obtain ⟨SS,hSS⟩:∃ SS,Zg (l.map (Uu b.rs))=SS:=⟨_,rfl⟩
 rw [hSS] at cS hsb hB
 rw [hme] at hml ⊢
 refine Vk _ ?_
 dsimp only [Tryz.f69,Option.getD]
 match men,hml with
 | [m0,m1,m2,m3],_ =>
  have hb4:Us [m0,m1,m2,m3]=[.bool m0,.bool m1,.bool m2,.bool m3]:=rfl
  rw [hb4] at cS ⊢
  simp [-Xa,Yf3,We0,hl1,g5,g6]
  refine Wd (fun env σ'=>∃ (u:List AV) (i:Nat),env={ t:=u }∧u.length=65∧tg u 5=va∧tg u 11=.int .i64 (Wu ([m0,m1,m2,m3].take i))∧tg u 48=.agg [.bool m0,.bool m1,.bool m2,.bool m3]∧tg u 49=.int .i64 i∧i≤4∧σ'=σ++(.cells [.bool m0,.bool m1,.bool m2,.bool m3]::g))
   (fun env _=>match tg env.t 49 with | .int _ i=>4 - i.toNat | _=>0) ⟨_,0,rfl,by simp [hl1],by simp [hl1,g5],by simp [hl1,Wu],by simp [hl1],by simp [hl1],by omega,rfl⟩ ?_
  clear hl1 g5 g6
  rintro env _ ⟨u,i,rfl,hl1,g5,g11,g48,g49,hi,rfl⟩
  have w1:IntKind.i64.wrap 1=1:=by decide
  have w2:IntKind.i64.wrap 2=2:=by decide
  have w3:IntKind.i64.wrap 3=3:=by decide
  have w4:IntKind.i64.wrap 4=4:=by decide
  have hi':i=0∨i=1∨i=2∨i=3∨i=4:=by omega
  rcases hi' with rfl | rfl | rfl | rfl | rfl
  ·have hs:=Za6 (l:=[m0,m1,m2,m3]) (i:=0) (b:=m0) rfl
   obtain ⟨c,hc⟩:∃ c,Wu ([m0,m1,m2,m3].take 0)=c:=⟨_,rfl⟩
   have hcb:=Wax [m0,m1,m2,m3] 0
   rw [hc] at hs hcb g11
   have hcl:c≤4:=hcb.2
   have hw:=w64 (n:=c+1) (by omega) (by omega)
   cases m0
   ·simp [-Xa,-List.take_succ_cons,-List.take_zero,hl1,g5,g11,g48,g49,w1,w2,w3,w4]
    exact ⟨0+1,by rw [hs];simp,by simp,by omega⟩
   ·simp [-Xa,-List.take_succ_cons,-List.take_zero,hl1,g5,g11,g48,g49,w1,w2,w3,w4,hw]
    exact ⟨0+1,by rw [hs];simp,by simp,by omega⟩
  ·have hs:=Za6 (l:=[m0,m1,m2,m3]) (i:=1) (b:=m1) rfl
   obtain ⟨c,hc⟩:∃ c,Wu ([m0,m1,m2,m3].take 1)=c:=⟨_,rfl⟩
   have hcb:=Wax [m0,m1,m2,m3] 1
   rw [hc] at hs hcb g11
   have hcl:c≤4:=hcb.2
   have hw:=w64 (n:=c+1) (by omega) (by omega)
   cases m1
   ·simp [-Xa,-List.take_succ_cons,-List.take_zero,hl1,g5,g11,g48,g49,w1,w2,w3,w4]
    exact ⟨1+1,by rw [hs];simp,by simp,by omega⟩
   ·simp [-Xa,-List.take_succ_cons,-List.take_zero,hl1,g5,g11,g48,g49,w1,w2,w3,w4,hw]
    exact ⟨1+1,by rw [hs];simp,by simp,by omega⟩
  ·have hs:=Za6 (l:=[m0,m1,m2,m3]) (i:=2) (b:=m2) rfl
   obtain ⟨c,hc⟩:∃ c,Wu ([m0,m1,m2,m3].take 2)=c:=⟨_,rfl⟩
   have hcb:=Wax [m0,m1,m2,m3] 2
   rw [hc] at hs hcb g11
   have hcl:c≤4:=hcb.2
   have hw:=w64 (n:=c+1) (by omega) (by omega)
   cases m2
   ·simp [-Xa,-List.take_succ_cons,-List.take_zero,hl1,g5,g11,g48,g49,w1,w2,w3,w4]
    exact ⟨2+1,by rw [hs];simp,by simp,by omega⟩
   ·simp [-Xa,-List.take_succ_cons,-List.take_zero,hl1,g5,g11,g48,g49,w1,w2,w3,w4,hw]
    exact ⟨2+1,by rw [hs];simp,by simp,by omega⟩
  ·have hs:=Za6 (l:=[m0,m1,m2,m3]) (i:=3) (b:=m3) rfl
   obtain ⟨c,hc⟩:∃ c,Wu ([m0,m1,m2,m3].take 3)=c:=⟨_,rfl⟩
   have hcb:=Wax [m0,m1,m2,m3] 3
   rw [hc] at hs hcb g11
   have hcl:c≤4:=hcb.2
   have hw:=w64 (n:=c+1) (by omega) (by omega)
   cases m3
   ·simp [-Xa,-List.take_succ_cons,-List.take_zero,hl1,g5,g11,g48,g49,w1,w2,w3,w4]
    exact ⟨3+1,by rw [hs];simp,by simp,by omega⟩
   ·simp [-Xa,-List.take_succ_cons,-List.take_zero,hl1,g5,g11,g48,g49,w1,w2,w3,w4,hw]
    exact ⟨3+1,by rw [hs];simp,by simp,by omega⟩
  ·have hs:Wu ([m0,m1,m2,m3].take 4)=(([m0,m1,m2,m3].filter id).length:Int):=rfl
   rw [hs] at g11
   have hcb:([m0,m1,m2,m3].filter id).length≤4:=List.length_filter_le id [m0,m1,m2,m3]
   obtain ⟨c,hc⟩:∃ c,([m0,m1,m2,m3].filter id).length=c:=⟨_,rfl⟩
   rw [hc] at g11 hcb
   by_cases h0:c=0
   ·subst h0
    have hB0:Ur b.rs l=0:=by rw [hB,hc];simp
    simp [-Xa,hl1,g5,g11,g48,g49]
    exact ⟨σ,_,rfl,rfl,fun r o h=>.inl h,_,.int _ _,by rw [hB0],rfl⟩
   ·have h0':¬ (c:Int)=0:=by omega
    have hw1:=w64 (n:=SS+(c:Int)) (by omega) (by omega)
    have hw2:=w64 (n:=SS+(c:Int) - 1) (by omega) (by omega)
    simp [-Xa,hl1,g5,g11,g48,g49,h0,h0']
    refine StA.of (cS.mono ?_)
    rintro _ _ ⟨rfl,rfl⟩
    rw [hc,if_neg h0'] at hB
    have hd1:(SS+(c:Int) - 1).tdiv c=(SS+(c:Int) - 1) / c:=Int.tdiv_eq_ediv_of_nonneg (by omega)
    have hd2:0≤(SS+(c:Int) - 1) / c:=Int.ediv_nonneg (by omega) (by omega)
    have hd3:(SS+(c:Int) - 1) / c≤SS+(c:Int) - 1:=Int.ediv_le_self _ (by omega)
    have hw3:=w64 (n:=(SS+(c:Int) - 1).tdiv c) (by omega) (by omega)
    simp [-Xa,hl1,g5,g11,g48,g49,h0,h0',hw1,hw2,hw3]
    exact ⟨σ,_,rfl,rfl,fun r o h=>.inl h,_,.int _ _,by rw [hB],rfl⟩
end Ab

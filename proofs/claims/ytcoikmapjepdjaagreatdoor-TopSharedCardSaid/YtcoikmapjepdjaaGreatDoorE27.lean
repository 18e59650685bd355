/-
  Texts packed for a claim.
-/
import Derived.Test.YtcoikmapjepdjaaGreatDoorE00
import Derived.Test.YtcoikmapjepdjaaGreatDoorE26
import Derived.Test.YtcoikmapjepdjaaGreatDoorE25
import Derived.Test.YtcoikmapjepdjaaGreatDoorE24
set_option linter.all false
namespace Ab
open Go Go.RowKit Go.Proofs
def stF (i:Nat) (f:List Int):AV:=.agg (.int .i64 i::Ya f)
theorem Wb0:∀ (x y:List Int),x.length=y.length→Wh (List.replicate x.length 1) (Ya x) (Ya y)=some (decide (x=y))
 | [],[],_=>rfl
 | a::x,b::y,h=>by
  have ih:=Wb0 x y (by simpa using h)
  have e1:Ya (a::x)=.int .i64 a::Ya x:=rfl
  have e2:Ya (b::y)=.int .i64 b::Ya y:=rfl
  rw [List.length_cons,List.replicate_succ,e1,e2,Wh,ih]
  simp only [Zt]
  by_cases h1:a=b<;>by_cases h2:x=y<;>simp [h1,h2]
 | [],_::_,h=>by simp at h
 | _::_,[],h=>by simp at h
def Memo (t:List Int→Int) (rs:List (Int × List Int)) (es:List (AV × AV)):Prop:=∀ e∈es,∃ (i:Nat) (f:List Int),i<rs.length∧f.length=4∧e=(stF i f,.int .i64 (Uh t (rs.drop i) f))
theorem Memo.find {t:List Int→Int} {rs:List (Int × List Int)} {i:Nat} {f:List Int} (hf:f.length=4):∀ (es:List (AV × AV)) (k:Nat),Memo t rs es→Ym [1,1,1,1,1] (.int .i64 i::Ya f) es k=some none∨∃ j,Ym [1,1,1,1,1] (.int .i64 i::Ya f) es k=some (some (j,.int .i64 (Uh t (rs.drop i) f))):=by
 intro es
 induction es with
 | nil=>intro k _;exact .inl rfl
 | cons e es ih =>
  intro k h
  obtain ⟨i',f',hi,hf',rfl⟩:=h e (by simp)
  have ih:=ih (k+1) fun e he=>h e (by simp [he])
  have ha:=Wb0 ((i:Int)::f) ((i':Int)::f') (by simp [hf,hf'])
  rw [List.length_cons,hf] at ha
  have ha':Wh [1,1,1,1,1] (.int .i64 i::Ya f) (.int .i64 i'::Ya f')=some (decide ((i:Int)::f=(i':Int)::f')):=ha
  unfold stF
  rw [Ym,ha']
  by_cases e:(i:Int)::f=(i':Int)::f'
  ·rw [decide_eq_true e]
   simp at e
   obtain ⟨e1,e2⟩:=e
   obtain rfl:i=i':=by omega
   subst e2
   exact .inr ⟨k,rfl⟩
  ·rw [decide_eq_false e]
   exact ih
theorem Memo.add {t:List Int→Int} {rs:List (Int × List Int)} {es:List (AV × AV)} (h:Memo t rs es) {i:Nat} {f:List Int} (hi:i<rs.length) (hf:f.length=4):Memo t rs (es++[(stF i f,.int .i64 (Uh t (rs.drop i) f))]):=fun e he=>by
 rcases List.mem_append.1 he with h1 | h1
 ·exact h e h1
 ·rw [List.mem_singleton.1 h1]
  exact ⟨i,f,hi,hf,rfl⟩
def Wk (t:List Int→Int):List (Int × List Int)→Nat→List Int→List (AV × AV)→Int × List (AV × AV)
 | [],_,f,es=>(t f,es)
 | r::rs,i,f,es=>match Ym [1,1,1,1,1] (.int .i64 i::Ya f) es 0 with
  | some (some (_,.int _ n))=>(n,es)
  | _ =>
   let acc:=r.2.foldl (fun (acc:Int × List (AV × AV)) c=>let x:=Wk t rs (i+1) (Zd f c r.1) acc.2;(if acc.1<0∨x.1<acc.1 then x.1 else acc.1,x.2)) (-1,es)
   (acc.1,match Ym [1,1,1,1,1] (.int .i64 i::Ya f) acc.2 0 with
    | some (some (j,_))=>acc.2.set j (stF i f,.int .i64 acc.1)
    | _=>acc.2++[(stF i f,.int .i64 acc.1)])
def stepM (t:List Int→Int) (rs:List (Int × List Int)) (i:Nat) (f:List Int) (x:Int) (acc:Int × List (AV × AV)) (c:Int):Int × List (AV × AV) :=
 (if acc.1<0∨(Wk t rs (i+1) (Zd f c x) acc.2).1<acc.1 then (Wk t rs (i+1) (Zd f c x) acc.2).1 else acc.1,(Wk t rs (i+1) (Zd f c x) acc.2).2)
theorem Memo.set {t:List Int→Int} {rs:List (Int × List Int)} {es:List (AV × AV)} (h:Memo t rs es) {i:Nat} {f:List Int} (hi:i<rs.length) (hf:f.length=4) (j:Nat):Memo t rs (es.set j (stF i f,.int .i64 (Uh t (rs.drop i) f))):=fun e he=>by
 rcases List.mem_or_eq_of_mem_set he with h1 | h1
 ·exact h e h1
 ·exact ⟨i,f,hi,hf,h1⟩
theorem Wav {t:List Int→Int} {R:List (Int × List Int)}:∀ (rs:List (Int × List Int)) (i:Nat) (f:List Int) (es:List (AV × AV)),R.drop i=rs→f.length=4→Memo t R es→(Wk t rs i f es).1=Uh t rs f∧Memo t R (Wk t rs i f es).2:=by
 intro rs
 induction rs with
 | nil=>intro i f es _ _ h;exact ⟨rfl,h⟩
 | cons r rs ih =>
  intro i f es hR hf h
  have hi:i<R.length:=by
   have:=congrArg List.length hR
   simp at this
   omega
  have hR':R.drop (i+1)=rs:=by rw [← List.drop_drop,hR];rfl
  have hgo:∀ (L:List Int) (b:Int) (es:List (AV × AV)),Memo t R es→(L.foldl (stepM t rs i f r.1) (b,es)).1=L.foldl (fun best c=>if best<0∨Uh t rs (Zd f c r.1)<best then Uh t rs (Zd f c r.1) else best) b∧Memo t R (L.foldl (stepM t rs i f r.1) (b,es)).2:=by
   intro L
   induction L with
   | nil=>intro b es h;exact ⟨rfl,h⟩
   | cons c L ihL =>
    intro b es h
    obtain ⟨q1,q2⟩:=ih (i+1) (Zd f c r.1) es hR' (by rw [Uy];exact hf) h
    rw [List.foldl_cons,List.foldl_cons]
    have e:stepM t rs i f r.1 (b,es) c=(if b<0∨Uh t rs (Zd f c r.1)<b then Uh t rs (Zd f c r.1) else b,(Wk t rs (i+1) (Zd f c r.1) es).2):=by
     unfold stepM
     rw [q1]
    rw [e]
    exact ihL _ _ q2
  have hdef:Wk t (r::rs) i f es=match Ym [1,1,1,1,1] (.int .i64 i::Ya f) es 0 with
   | some (some (_,.int _ n))=>(n,es)
   | _=>((r.2.foldl (stepM t rs i f r.1) (-1,es)).1,match Ym [1,1,1,1,1] (.int .i64 i::Ya f) (r.2.foldl (stepM t rs i f r.1) (-1,es)).2 0 with
    | some (some (j,_))=>(r.2.foldl (stepM t rs i f r.1) (-1,es)).2.set j (stF i f,.int .i64 (r.2.foldl (stepM t rs i f r.1) (-1,es)).1)
    | _=>(r.2.foldl (stepM t rs i f r.1) (-1,es)).2++[(stF i f,.int .i64 (r.2.foldl (stepM t rs i f r.1) (-1,es)).1)]):=rfl
  rw [hdef]
  rcases Memo.find (i:=i) hf es 0 h with e | ⟨j,e⟩
  ·rw [e]
   obtain ⟨q1,q2⟩:=hgo r.2 (-1) es h
   obtain ⟨A,hA⟩:∃ A,r.2.foldl (stepM t rs i f r.1) (-1,es)=A:=⟨_,rfl⟩
   rw [hA] at q1 q2 ⊢
   have hv:A.1=Uh t (r::rs) f:=q1
   refine ⟨hv,?_⟩
   dsimp only
   rw [hv,← hR]
   rcases Memo.find (i:=i) hf A.2 0 q2 with e2 | ⟨j,e2⟩
   ·rw [e2];exact q2.add hi hf
   ·rw [e2];exact q2.set hi hf j
  ·rw [e,hR]
   exact ⟨rfl,h⟩
theorem Xey {t:List Int→Int} {r:Int × List Int} {rs:List (Int × List Int)} {i:Nat} {f:List Int} {es:List (AV × AV)} {j:Nat} {n:Int} (h:Ym [1,1,1,1,1] (.int .i64 i::Ya f) es 0=some (some (j,.int .i64 n))):Wk t (r::rs) i f es=(n,es):=by
 unfold Wk
 rw [h]
theorem Wbu {t:List Int→Int} {r:Int × List Int} {rs:List (Int × List Int)} {i:Nat} {f:List Int} {es:List (AV × AV)} (h:Ym [1,1,1,1,1] (.int .i64 i::Ya f) es 0=some none):Wk t (r::rs) i f es=((r.2.foldl (stepM t rs i f r.1) (-1,es)).1,match Ym [1,1,1,1,1] (.int .i64 i::Ya f) (r.2.foldl (stepM t rs i f r.1) (-1,es)).2 0 with
        | some (some (j,_))=>(r.2.foldl (stepM t rs i f r.1) (-1,es)).2.set j (stF i f,.int .i64 (r.2.foldl (stepM t rs i f r.1) (-1,es)).1)
        | _=>(r.2.foldl (stepM t rs i f r.1) (-1,es)).2++[(stF i f,.int .i64 (r.2.foldl (stepM t rs i f r.1) (-1,es)).1)]):=by
 rw [Wk,h]
 rfl
theorem Was {n:Nat} {σ:Za} (a b c d e:Int):Fz n σ (.agg [.int .i64 a,.int .i64 b,.int .i64 c,.int .i64 d,.int .i64 e]) (.agg [.int .i64 a,.int .i64 b,.int .i64 c,.int .i64 d,.int .i64 e]):=by simp
attribute [local irreducible] aws awp aw1 Og Om Oc Oa Ogd Ov Ot awd Ua awh Xb Ogh Ohd awl Ogl Ohl awv Ogv Ohv Wb Vb QFn Zc Vg QRo QBe Yf Yg ACode AYield
theorem Wbi (b:Bx) (h:b.Ok) (σ:Za) (q:Nat) (hq:σ[q]? = some (.cells (Xc b))) (i:Nat) (r:Rnd) (hr:b.rounds[i]? = some r) (f:List Int) (hf:f.length=4) (hb:∀ x∈f,0≤x∧x≤100000) (c:Int) (hc:c∈r.may) :
  ACalls Tryz.prog 151 [.ptr q 0,stF i f,.int .i64 c] σ fun v s=>v=stF (i+1) (Zd f c (b.fee r))∧s=σ:=by
 refine ACalls.forgetT ?_
 refine Yb Tryz.func151 rfl (Zb Tryz.func151 (by decide) rfl) ?_
 have hql:=(Qzs.1 hq).1
 have hqX:∀ X:Za,(σ++X)[q]? = some (.cells (Xc b)):=fun X=>by rw [Qzl hql];exact hq
 obtain ⟨hi,hri⟩:=Qzs.1 hr
 have ok:r.Ok b.criers:=hri▸h.each _ (List.getElem_mem hi)
 have hcm:=ok.mem c hc
 have hc4:=h.c4
 have hfew:=h.few
 obtain ⟨_,f3,f4⟩:=Bx.fee_le h ok
 obtain ⟨m,rfl⟩:∃ m:Nat,c=m:=⟨c.toNat,by omega⟩
 match f,hf with
 | [a0,a1,a2,a3],_ =>
  have hfe:(Zl b)[i]? = some (b.fee r):=by unfold Zl;rw [Qzp,hr];rfl
  have hfl:i<(Ya (Zl b)).length:=by simp [Ya,Zl];exact hi
  have hfx:(Ya (Zl b))[i]'hfl=.int .i64 (b.fee r):=by simp [Ya,Zl,hri]
  have hx:=w64 (n:=(i:Int)+1) (by omega) (by omega)
  have b0:=hb a0 (by simp)
  have b1:=hb a1 (by simp)
  have b2:=hb a2 (by simp)
  have b3:=hb a3 (by simp)
  have x0:=w64 (n:=a0+b.fee r) (by omega) (by omega)
  have x1:=w64 (n:=a1+b.fee r) (by omega) (by omega)
  have x2:=w64 (n:=a2+b.fee r) (by omega) (by omega)
  have x3:=w64 (n:=a3+b.fee r) (by omega) (by omega)
  have hm:m=0∨m=1∨m=2∨m=3:=by omega
  have hiI:(i:Int)<(b.rounds.length:Int):=by omega
  have hil:(Ya (Zl b)).length=b.rounds.length:=by simp [Ya,Zl]
  simp [Tryz.ntmps151,stF,Ya]
  refine Xp [15] [] mixed (by kernel_rfl) (by kernel_rfl) ?_
  simp [hqX,Xc,hiI,hil,hfl,hfx,hi]
  rcases hm with rfl | rfl | rfl | rfl
  ·simp [hqX,Xc,hiI,hil,hfl,hfx,hi,x0,hx]
   exact ⟨σ,_,rfl,rfl,fun r o h=>.inl h,_,Was _ _ _ _ _,by simp [Zd],rfl⟩
  ·simp [hqX,Xc,hiI,hil,hfl,hfx,hi,x1,hx]
   exact ⟨σ,_,rfl,rfl,fun r o h=>.inl h,_,Was _ _ _ _ _,by simp [Zd],rfl⟩
  ·simp [hqX,Xc,hiI,hil,hfl,hfx,hi,x2,hx]
   exact ⟨σ,_,rfl,rfl,fun r o h=>.inl h,_,Was _ _ _ _ _,by simp [Zd],rfl⟩
  ·simp [hqX,Xc,hiI,hil,hfl,hfx,hi,x3,hx]
   exact ⟨σ,_,rfl,rfl,fun r o h=>.inl h,_,Was _ _ _ _ _,by simp [Zd],rfl⟩
theorem Ybw (l:List Int) (hne:l≠[]) (hl:l.length≤2^40):APure Tryz.prog 23 [.pl 1 (Ya l)] (.int .i64 (Uz l)):=by
 intro σ
 refine Yb Tryz.func23 rfl (Zb Tryz.func23 (by decide) rfl) ?_
 match l,hne with
 | x::t,_ =>
  have h1:¬ ((t.length:Int)+1<1):=by omega
  have hil:(Ya (x::t)).length=t.length+1:=by simp [Ya]
  have hI:∀ (i:Nat),i<t.length+1→(Ya (x::t))[i]? = some (.int .i64 ((x::t)[i]?.getD 0)):=fun i hi=>by
   unfold Ya
   rw [Qzp,Qze (by simpa using hi)]
   rfl
  have h0:(Ya (x::t))[0]'(by omega)=.int .i64 x:=rfl
  simp [Tryz.ntmps23,hil,h1,h0]
  refine Wd (fun env σ'=>∃ (u:List AV) (i:Nat),env={ t:=u }∧u.length=25∧tg u 0=.pl 1 (Ya (x::t))∧tg u 3=.int .i64 ((t.take i).foldl (fun a b=>if a<b then b else a) x)∧tg u 4=.int .i64 ((i:Int)+1)∧i≤t.length∧σ'=σ)
   (fun env _=>match tg env.t 4 with | .int _ i=>t.length+1 - i.toNat | _=>0) ⟨_,0,rfl,by simp,by simp,by simp,by simp,by omega,rfl⟩ ?_
  rintro env _ ⟨u,i,rfl,hl0,g0,g3,g4,hi,rfl⟩
  simp only [List.length_cons] at hl
  rcases Qzn i t.length with hlt | hge
  ·have hlt':(i:Int)+1<(t.length:Int)+1:=by omega
   have hw:=w64 (n:=(i:Int)+1+1) (by omega) (by omega)
   have e1:(Ya (x::t))[i+1]'(by omega)=.int .i64 t[i]:=by simp [Ya]
   have c0:(0:Int)≤(i:Int)+1:=by omega
   obtain ⟨m,hm⟩:∃ m,(t.take i).foldl (fun a b=>if a<b then b else a) x=m:=⟨_,rfl⟩
   have hsnoc:(t.take (i+1)).foldl (fun a b=>if a<b then b else a) x=if m<t[i] then t[i] else m:=by
    rw [Qzt hlt,List.foldl_append,hm];rfl
   rw [hm] at g3
   simp [hl0,g0,g3,g4,hil,hlt',hlt,e1,c0,hw]
   exact ⟨⟨i+1,hsnoc.symm,by simp,hlt⟩,by omega⟩
  ·obtain rfl:i=t.length:=by omega
   rw [List.take_length] at g3
   simp [hl0,g0,g3,g4,hil]
   rfl
theorem Xbo {f:FuncId} {args args':List AV} {k:IntKind} {n:Int} {τ:Za} (h:APure Tryz.prog f args (.int k n)) (hz:FzL 0 τ args' args):ACalls Tryz.prog f args' τ fun v s=>v=.int k n∧s=τ :=
 APure.lend h hz.1 hz.2 fun C C' c hv=>by cases hv;exact .int _ _
theorem Vfp (b:Bx) (h:b.Ok) (σ:Za) (q:Nat) (hq:σ[q]? = some (.cells (Xc b))) (f:List Int) (hf:f.length=4) :
  ACalls Tryz.prog 68 [.ptr q 0,.agg (Ya f)] σ fun v s=>v=.int .i64 (Zf b.criers.toNat f)∧s=σ:=by
 refine ACalls.forgetT ?_
 refine Yb Tryz.func68 rfl (Zb Tryz.func68 (by decide) rfl) ?_
 have hql:=(Qzs.1 hq).1
 have hqX:∀ X:Za,(σ++X)[q]? = some (.cells (Xc b)):=fun X=>by rw [Qzl hql];exact hq
 have h1:=h.c1
 have h4:=h.c4
 obtain ⟨c,hc⟩:∃ c:Nat,b.criers=c:=⟨b.criers.toNat,by omega⟩
 have hcn:b.criers.toNat=c:=by omega
 have hl4:(f.take c).length=c:=by rw [List.length_take,hf];omega
 have hne:f.take c≠[]:=fun e=>by rw [e] at hl4;simp at hl4;omega
 have cM:=Ybw (f.take c) hne (by omega)
 have hil:(Ya f).length=4:=by simp [Ya,hf]
 have hfz:Fz 0 (σ++[AObj.cells (Ya f)]) (.arr 1 σ.length 0 c) (.pl 1 (Ya (f.take c))):=by
  have:=Wag (n:=0) (σ:=σ++[AObj.cells (Ya f)]) (r:=σ.length) (off:=0) (cs:=Ya f) (l:=f.take c) (by omega) (by simp) fun i x hx=>by
   rw [List.getElem?_take] at hx
   split at hx
   ·rw [Nat.zero_add];unfold Ya;rw [Qzp,hx];rfl
   ·cases hx
  rw [hl4] at this
  exact this
 have cL:=Xbo cM (FzL.cons_iff.2 ⟨hfz,FzL.nil_iff.2 trivial⟩)
 match f,hf with
 | [a0,a1,a2,a3],_ =>
  have hc':c=1∨c=2∨c=3∨c=4:=by omega
  have hmf:Zf b.criers.toNat [a0,a1,a2,a3]=Uz (List.take c [a0,a1,a2,a3]):=by rw [hcn];rfl
  rw [hmf]
  have e0:Ya [a0,a1,a2,a3]=[.int .i64 a0,.int .i64 a1,.int .i64 a2,.int .i64 a3]:=rfl
  rw [e0] at cL ⊢
  have hcI:(c:Int)≤4:=by omega
  have hc4:c≤4:=by omega
  have hc0:¬ 0=c:=by omega
  simp [Tryz.ntmps68,hqX,Xc,hc,hc4,hc0]
  refine StA.of (cL.mono ?_)
  rintro v s ⟨rfl,rfl⟩
  try simp
  exact ⟨σ,_,rfl,rfl,fun r o h=>.inl h,_,.int _ _,rfl,rfl⟩
theorem Xa4 {σ:Za} {j:Nat} {o:AObj} (h:σ[j]? = some o):σ.set j o=σ:=by
 apply List.ext_getElem?
 intro k
 rw [List.getElem?_set]
 split
 ·rename_i e;subst e;rw [if_pos (Qzs.1 h).1,h]
 ·rfl
structure RsAt (b:Bx) (σ:Za) (q a bb c e j:Nat):Prop where
 hdk:σ[q]? = some (.cells (Xc b))
 ha:σ[a]? = some (.cells [.ptr q 0])
 hbb:σ[bb]? = some (.cells [.fn (.func 68) [.ptr q 0] []])
 hc:σ[c]? = some (.cells [.mp j])
 he:σ[e]? = some (.cells [.fn (.func 150) [] [.ptr a 0,.ptr bb 0,.ptr c 0,.ptr e 0]])
theorem RsAt.turn {b:Bx} {σ:Za} {q a bb c e j:Nat} (h:RsAt b σ q a bb c e j) {es es':List (AV × AV)} (hj:σ[j]? = some (.map es)):RsAt b (σ.set j (.map es')) q a bb c e j:=by
 have key:∀ (k:Nat) (cs:List AV),σ[k]? = some (.cells cs)→(σ.set j (.map es'))[k]? = some (.cells cs):=fun k cs hk=>by
  rw [List.getElem?_set_ne (fun e=>by subst e;rw [hj] at hk;cases hk)]
  exact hk
 exact ⟨key _ _ h.hdk,key _ _ h.ha,key _ _ h.hbb,key _ _ h.hc,key _ _ h.he⟩
theorem RsAt.more {b:Bx} {σ:Za} {q a bb c e j:Nat} (h:RsAt b σ q a bb c e j) (X:Za):RsAt b (σ++X) q a bb c e j:=by
 have key:∀ (k:Nat) (o:AObj),σ[k]? = some o→(σ++X)[k]? = some o:=fun k o hk=>by rw [Qzl (Qzs.1 hk).1];exact hk
 exact ⟨key _ _ h.hdk,key _ _ h.ha,key _ _ h.hbb,key _ _ h.hc,key _ _ h.he⟩
theorem Yb2 {t:List Int→Int} {rs:List (Int × List Int)} {es:List (AV × AV)} (h:Memo t rs es) (σ:Za) (j:Nat) (n:Nat) (S:Za):∀ (r:Nat) (o:AObj),(σ.set j (.map es))[r]? = some o→σ[r]? = some o∨Ybk n S o:=fun r o ho=>by
 rw [List.getElem?_set] at ho
 split at ho
 ·split at ho
  ·obtain rfl:=Option.some.inj ho
   refine .inr (.inr ⟨es,rfl,fun e he=>?_⟩)
   obtain ⟨i,f,_,hf,rfl⟩:=h e he
   match f,hf with
   | [a,b,c,d],_=>exact ⟨Was _ _ _ _ _,.int _ _⟩
  ·cases ho
 ·exact .inl ho
def FeeB (i:Nat) (f:List Int):Prop:=f.length=4∧∀ x∈f,0≤x∧x≤1000*(i:Int)
theorem FeeB.add {b:Bx} (h:b.Ok) {r:Rnd} (hr:r.Ok b.criers) {i:Nat} {f:List Int} (hf:FeeB i f) {c:Int} (hc:c∈r.may):FeeB (i+1) (Zd f c (b.fee r)):=by
 obtain ⟨_,f3,f4⟩:=Bx.fee_le h hr
 refine ⟨by rw [Uy];exact hf.1,fun x hx=>?_⟩
 unfold Zd at hx
 rcases List.mem_or_eq_of_mem_set hx with h1 | h1
 ·have:=hf.2 x h1;omega
 ·have:=hr.mem c hc
  have h4:=h.c4
  have hl:c.toNat<f.length:=by rw [hf.1];omega
  have:=hf.2 f[c.toNat] (List.getElem_mem hl)
  rw [List.getD_eq_getElem?_getD,Qze hl,Option.getD_some] at h1
  omega
set_option maxHeartbeats 4000000 in
theorem Xcc (b:Bx) (h:b.Ok) (q a bb c e j:Nat):∀ (k i:Nat) (f:List Int) (es:List (AV × AV)) (σ:Za),i+k=b.rounds.length→FeeB i f→RsAt b σ q a bb c e j→σ[j]? = some (.map es)→Memo (Zf b.criers.toNat) b.rs es →
  ACalls Tryz.prog 150 [stF i f,.ptr a 0,.ptr bb 0,.ptr c 0,.ptr e 0] σ fun v s=>v=.int .i64 (Wk (Zf b.criers.toNat) (b.rs.drop i) i f es).1∧s=σ.set j (.map (Wk (Zf b.criers.toNat) (b.rs.drop i) i f es).2):=by
 intro k
 induction k with
 | zero =>
  intro i f es σ hik hf hat hj hm
  obtain rfl:i=b.rounds.length:=by omega
  have hd:b.rs.drop b.rounds.length=[]:=List.drop_eq_nil_of_le (by simp [Bx.rs])
  rw [hd]
  have hset:σ.set j (.map es)=σ:=by
   apply List.ext_getElem?
   intro k
   rw [List.getElem?_set]
   split
   ·rename_i e;subst e;rw [if_pos (Qzs.1 hj).1,hj]
   ·rfl
  rw [show Wk (Zf b.criers.toNat) [] b.rounds.length f es=(Zf b.criers.toNat f,es) from rfl,hset]
  refine ACalls.forgetT ?_
  refine Yb Tryz.func150 rfl (Zb Tryz.func150 (by decide) rfl) ?_
  have hX:=hat.more [.cells (.int .i64 b.rounds.length::Ya f)]
  have cM:=Vfp b h (σ++[.cells (.int .i64 b.rounds.length::Ya f)]) q hX.hdk f hf.1
  match f,hf.1 with
  | [a0,a1,a2,a3],_ =>
   have e0:Ya [a0,a1,a2,a3]=[.int .i64 a0,.int .i64 a1,.int .i64 a2,.int .i64 a3]:=rfl
   rw [e0] at cM hX
   simp [Tryz.ntmps150,stF,e0]
   refine Yl mixed (by kernel_rfl) ?_
   simp [hX.ha,hX.hdk,hX.hbb,hX.hc,hX.he,Xc]
   refine StA.of (cM.mono ?_)
   rintro v s ⟨rfl,rfl⟩
   try simp
   exact ⟨σ,_,rfl,rfl,fun r o h=>.inl h,_,.int _ _,rfl,rfl⟩
 | succ k ih =>
  intro i f es σ hik hf hat hj hm
  have hi:i<b.rounds.length:=by omega
  obtain ⟨r,hr⟩:∃ r,b.rounds[i]=r:=⟨_,rfl⟩
  have hr?:b.rounds[i]? = some r:=by rw [Qze hi,hr]
  have ok:r.Ok b.criers:=hr▸h.each _ (List.getElem_mem hi)
  have hd:b.rs.drop i=(b.fee r,r.may)::b.rs.drop (i+1):=by
   rw [List.drop_eq_getElem_cons (by simp [Bx.rs];exact hi)]
   simp [Bx.rs,hr]
  have hRl:b.rs.length=b.rounds.length:=by simp [Bx.rs]
  obtain ⟨t,ht⟩:∃ t,Zf b.criers.toNat=t:=⟨_,rfl⟩
  rw [ht] at ih hm ⊢
  obtain ⟨rs',hrs'⟩:∃ x,b.rs.drop (i+1)=x:=⟨_,rfl⟩
  rw [hrs'] at hd
  rw [hd]
  refine ACalls.forgetM ?_
  refine Yb Tryz.func150 rfl (Zb Tryz.func150 (by decide) rfl) ?_
  have hX:=hat.more [.cells (.int .i64 i::Ya f)]
  have hjl:=(Qzs.1 hj).1
  have hjX:∀ X:Za,(σ++X)[j]? = some (.map es):=fun X=>by rw [Qzl hjl];exact hj
  have hfew:=h.few
  have hiI:¬ (i:Int)=(b.rounds.length:Int):=by omega
  have hiI2:(i:Int)<(b.rounds.length:Int):=by omega
  have hrl:(b.rounds.map Wc).length=b.rounds.length:=by simp
  have hil:i<(b.rounds.map Wc).length:=by simpa using hi
  have hix:(b.rounds.map Wc)[i]'hil=.agg [.int .i64 r.words,.int .i64 r.stands,.pl 1 (Ya r.may)]:=by simp [hr,Wc]
  have hml:(Ya r.may).length=r.may.length:=by simp [Ya]
  have hms:=ok.short h.c4
  match f,hf with
  | [a0,a1,a2,a3],hf =>
   have e0:Ya [a0,a1,a2,a3]=[.int .i64 a0,.int .i64 a1,.int .i64 a2,.int .i64 a3]:=rfl
   have hst:AV.agg [.int .i64 i,.int .i64 a0,.int .i64 a1,.int .i64 a2,.int .i64 a3]=stF i [a0,a1,a2,a3]:=rfl
   have hfind:=Memo.find (i:=i) hf.1 es 0 hm
   rw [e0] at hX hfind
   simp [Tryz.ntmps150,stF,e0]
   refine Yl mixed (by kernel_rfl) ?_
   rcases hfind with hno | ⟨jj,hyes⟩
   ·rw [Wbu (by rw [e0];exact hno)]
    simp [hX.ha,hX.hdk,hX.hbb,hX.hc,hX.he,Xc,hiI,hjX,Yag,hno]
    refine Yl mixed (by kernel_rfl) ?_
    simp [hX.ha,hX.hdk,hX.hbb,hX.hc,hX.he,Xc,hiI,hiI2,hi,hil,hix,hml]
    have hset:σ.set j (.map es)=σ:=Xa4 hj
    refine Wd (fun env σ'=>∃ (u:List AV) (m:Nat) (acc:Int × List (AV × AV)),env={ t:=u }∧u.length=69∧tg u 1=.ptr a 0∧tg u 2=.ptr bb 0∧tg u 3=.ptr c 0∧tg u 4=.ptr e 0∧tg u 5=.ptr σ.length 0∧tg u 9=.int .i64 acc.1∧tg u 44=.pl 1 (Ya r.may)∧tg u 45=.int .i64 r.may.length∧tg u 46=.int .i64 m∧m≤r.may.length ∧
      acc=(r.may.take m).foldl (stepM t rs' i [a0,a1,a2,a3] (b.fee r)) (-1,es)∧Memo t b.rs acc.2∧σ'=σ.set j (.map acc.2)++[.cells [.int .i64 i,.int .i64 a0,.int .i64 a1,.int .i64 a2,.int .i64 a3]])
     (fun env _=>match tg env.t 46 with | .int _ i=>r.may.length - i.toNat | _=>0) ⟨_,0,(-1,es),rfl,by simp,by simp,by simp,by simp,by simp,by simp,by simp,by simp,by simp,by simp,by omega,rfl,hm,by rw [hset]⟩ ?_
    rintro env _ ⟨u,m,acc,rfl,hl,g1,g2,g3,g4,g5,g9,g44,g45,g46,hml2,hacc,hmem,rfl⟩
    have hat2:=(hat.turn (es':=acc.2) hj).more [.cells [.int .i64 i,.int .i64 a0,.int .i64 a1,.int .i64 a2,.int .i64 a3]]
    have hlen2:(σ.set j (.map acc.2)).length=σ.length:=by simp
    have hself:(σ.set j (.map acc.2)++[AObj.cells [.int .i64 i,.int .i64 a0,.int .i64 a1,.int .i64 a2,.int .i64 a3]])[σ.length]? = some (.cells [.int .i64 i,.int .i64 a0,.int .i64 a1,.int .i64 a2,.int .i64 a3]):=by rw [Qzr (by omega),hlen2,Nat.sub_self];rfl
    have hj2:(σ.set j (.map acc.2)++[AObj.cells [.int .i64 i,.int .i64 a0,.int .i64 a1,.int .i64 a2,.int .i64 a3]])[j]? = some (.map acc.2):=by rw [Qzl (by omega),List.getElem?_set_self hjl]
    obtain ⟨T,hT⟩:∃ T,σ.set j (.map acc.2)++[AObj.cells [.int .i64 i,.int .i64 a0,.int .i64 a1,.int .i64 a2,.int .i64 a3]]=T:=⟨_,rfl⟩
    rw [hT] at hat2 hself hj2 ⊢
    rcases Qzn m r.may.length with hlt | hge
    ·have hlt':(m:Int)<(r.may.length:Int):=by omega
     have hw:=w64 (n:=(m:Int)+1) (by omega) (by omega)
     obtain ⟨d,hde⟩:∃ d,r.may[m]=d:=⟨_,rfl⟩
     have hd0:d∈r.may:=hde▸List.getElem_mem hlt
     have hmx:(Ya r.may)[m]'(by omega)=.int .i64 d:=by simp [Ya,hde]
     have cG:=Wbi b h T q hat2.hdk i r hr? [a0,a1,a2,a3] rfl (fun x hx=>by have:=hf.2 x hx;omega) d hd0
     have cR:=ih (i+1) (Zd [a0,a1,a2,a3] d (b.fee r)) acc.2 T (by omega) (hf.add h ok hd0) hat2 hj2 hmem
     rw [hrs'] at cR
     have hsnoc:(r.may.take (m+1)).foldl (stepM t rs' i [a0,a1,a2,a3] (b.fee r)) (-1,es)=stepM t rs' i [a0,a1,a2,a3] (b.fee r) acc d:=by
      rw [Qzt hlt,List.foldl_append,← hacc,hde];rfl
     have hmem2:=(Wav (t:=t) (R:=b.rs) rs' (i+1) (Zd [a0,a1,a2,a3] d (b.fee r)) acc.2 hrs' (by rw [Uy];rfl) hmem).2
     have hTset:∀ es2,T.set j (.map es2)=σ.set j (.map es2)++[AObj.cells [.int .i64 i,.int .i64 a0,.int .i64 a1,.int .i64 a2,.int .i64 a3]]:=fun es2=>by rw [← hT,List.set_append_left _ _ (by omega),List.set_set]
     rw [← hst] at cG
     simp [hl,g1,g2,g3,g4,g5,g9,g44,g45,g46,hlt,hlt',hml,hmx]
     refine Xp [5] [] mixed (by kernel_rfl) (by kernel_rfl) ?_
     simp [hl,g1,g2,g3,g4,g5,g9,g44,g45,g46,hat2.ha,hat2.hdk,hat2.hbb,hat2.hc,hat2.he,hself]
     refine Wa1 cG ?_
     try simp [hl,g1,g2,g3,g4,g5,g9,g44,g45,g46,hat2.ha,hat2.hdk,hat2.hbb,hat2.hc,hat2.he,hself]
     refine Zab (xs:=[]) (args:=[stF (i+1) (Zd [a0,a1,a2,a3] d (b.fee r))]) (ys:=[.ptr a 0,.ptr bb 0,.ptr c 0,.ptr e 0]) cR ?_
     by_cases hb:acc.1<0
     ·simp [hl,g1,g2,g3,g4,g5,g9,g44,g45,g46,hw,hb]
      exact ⟨⟨m+1,by simp,hlt,_,by rw [hsnoc];unfold stepM;rw [if_pos (.inl hb)],hmem2,hTset _⟩,by omega⟩
     ·by_cases hb2:(Wk t rs' (i+1) (Zd [a0,a1,a2,a3] d (b.fee r)) acc.2).1<acc.1
      ·simp [hl,g1,g2,g3,g4,g5,g9,g44,g45,g46,hw,hb,hb2]
       exact ⟨⟨m+1,by simp,hlt,_,by rw [hsnoc];unfold stepM;rw [if_pos (.inr hb2)],hmem2,hTset _⟩,by omega⟩
      ·simp [hl,g1,g2,g3,g4,g5,g9,g44,g45,g46,hw,hb,hb2]
       exact ⟨⟨m+1,by simp,hlt,_,by rw [hsnoc];unfold stepM;rw [if_neg (by rintro (h | h);exact hb h;exact hb2 h)],hmem2,hTset _⟩,by omega⟩
    ·obtain rfl:m=r.may.length:=by omega
     rw [List.take_length] at hacc
     rw [← hacc]
     have hval:acc.1=Uh t (b.rs.drop i) [a0,a1,a2,a3]:=by
      have:=(Wav (t:=t) (R:=b.rs) _ i [a0,a1,a2,a3] es hd hf.1 hm).1
      rw [Wbu (by rw [e0];exact hno)] at this
      rw [hd,← this,← hacc]
     have hK:i<b.rs.length:=by omega
     have hTset:∀ es2,T.set j (.map es2)=σ.set j (.map es2)++[AObj.cells [.int .i64 i,.int .i64 a0,.int .i64 a1,.int .i64 a2,.int .i64 a3]]:=fun es2=>by rw [← hT,List.set_append_left _ _ (by omega),List.set_set]
     rcases Memo.find (i:=i) hf.1 acc.2 0 hmem with hn2 | ⟨j2,hy2⟩
     ·rw [e0] at hn2 ⊢
      simp [hl,g1,g2,g3,g4,g5,g9,g44,g45,g46,hat2.ha,hat2.hdk,hat2.hbb,hat2.hc,hat2.he,hself,hj2,hn2]
      have hm3:=hmem.add hK hf.1
      rw [← hval] at hm3
      have e3:AV.agg [.int .i64 i,.int .i64 a0,.int .i64 a1,.int .i64 a2,.int .i64 a3]=stF i [a0,a1,a2,a3]:=rfl
      rw [e3]
      exact ⟨σ.set j (.map (acc.2++[(stF i [a0,a1,a2,a3],.int .i64 acc.1)])),_,hTset _,by simp,Yb2 hm3 _ _ _ _,_,.int _ _,rfl,rfl⟩
     ·rw [e0] at hy2 ⊢
      simp [hl,g1,g2,g3,g4,g5,g9,g44,g45,g46,hat2.ha,hat2.hdk,hat2.hbb,hat2.hc,hat2.he,hself,hj2,hy2]
      have hm3:=hmem.set hK hf.1 j2
      rw [← hval] at hm3
      have e3:AV.agg [.int .i64 i,.int .i64 a0,.int .i64 a1,.int .i64 a2,.int .i64 a3]=stF i [a0,a1,a2,a3]:=rfl
      rw [e3]
      exact ⟨σ.set j (.map (acc.2.set j2 (stF i [a0,a1,a2,a3],.int .i64 acc.1))),_,hTset _,by simp,Yb2 hm3 _ _ _ _,_,.int _ _,rfl,rfl⟩
   ·rw [Xey (by rw [e0];exact hyes)]
    simp [hX.ha,hX.hdk,hX.hbb,hX.hc,hX.he,Xc,hiI,hjX,Yag,hyes]
    exact ⟨σ.set j (.map es),_,by rw [Xa4 hj],by simp,fun r o ho=>by rw [Xa4 hj] at ho;exact .inl ho,_,.int _ _,rfl,rfl⟩
end Ab

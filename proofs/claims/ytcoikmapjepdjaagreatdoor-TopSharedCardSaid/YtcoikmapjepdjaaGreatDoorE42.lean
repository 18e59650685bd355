/-
  Texts packed for a claim.
-/
import Derived.Test.YtcoikmapjepdjaaGreatDoorE00
import Derived.Test.YtcoikmapjepdjaaGreatDoorE20
import Derived.Test.YtcoikmapjepdjaaGreatDoorE21
import Derived.Test.YtcoikmapjepdjaaGreatDoorE25
import Derived.Test.YtcoikmapjepdjaaGreatDoorE34
import Derived.Test.YtcoikmapjepdjaaGreatDoorE36
import Derived.Test.YtcoikmapjepdjaaGreatDoorE37
import Derived.Test.YtcoikmapjepdjaaGreatDoorE40
import Derived.Test.YtcoikmapjepdjaaGreatDoorE41
import Derived.Test.YtcoikmapjepdjaaGreatDoorE31
set_option linter.all false
namespace Ab
open Go Go.RowKit Go.Proofs
def Uag (men j:Nat):List (List Int):=(List.range' j (men - j)).flatMap fun k=>Wq men 0 (k+1)
theorem Wg0 (men:Nat):Vaa men=Uag men 0:=by unfold Vaa Uag;rw [List.range_eq_range',Nat.sub_zero]
theorem Ud6 {men j:Nat} (h:j<men):Uag men j=Wq men 0 (j+1)++Uag men (j+1):=by
 unfold Uag
 rw [show men - j=(men - (j+1))+1 by omega,List.range'_succ,List.flatMap_cons]
theorem Zej {men j:Nat} (h:men≤j):Uag men j=[]:=by
 unfold Uag
 rw [Nat.sub_eq_zero_of_le h]
 rfl
def tiH (σ:Za) (r:Rl) (acc:List Int × Int) (G:Za):Za:=σ++([.cells [.int .i64 r.men,.pl 2 (r.ntcs.map Ub)],.cells [lV acc.1],.cells [.int .i64 acc.2]]++G)
attribute [local irreducible] aws awp aw1 Og Om Oc Oa Ogd Ov Ot awd Ua awh Xb Ogh Ohd awl Ogl Ohl awv Ogv Ohv Wb Vb QFn Zc Vg QRo QBe Yf Yg ACode AYield
set_option maxHeartbeats 4000000 in
theorem Wcr (r:Rl) (h:r.Ok) (σ:Za):ACalls Tryz.prog 14 [Ug r] σ fun v s=>v=(if r.ntcs=[] then .tup [.nils,.int .i64 6] else .tup [lV (Zad r).1,.int .i64 0])∧∃ g,s=σ++g:=by
 refine Yb Tryz.func14 rfl (Zb Tryz.func14 (by decide) rfl) ?_
 have hm1:=h.m1
 have hm5:=h.m5
 simp [Tryz.ntmps14,Ug]
 refine (Yax r h).use ?_
 by_cases e:r.ntcs=[]
 ·simp [e]
 ·have e0:¬ r.ntcs.length=0:=fun h'=>e (List.length_eq_zero_iff.1 h')
  have e1:¬ (r.ntcs.length:Int)=0:=by omega
  simp [e,e0,e1]
  refine Wd (fun env σ'=>∃ (u:List AV) (j:Nat) (acc:List Int × Int) (G:Za),env={ t:=u }∧u.length=30∧tg u 1=.ptr σ.length 0∧tg u 5=.ptr (σ.length+1) 0∧tg u 6=.ptr (σ.length+2) 0∧tg u 7=.ptr (tiH σ r acc G).length 0∧j≤5∧(Uag r.men.toNat j).foldl (Vm r) acc=Zad r ∧
   σ'=tiH σ r acc G++[.cells [.int .i64 ((j:Int)+1)]])
   (fun env σ'=>match tg env.t 7 with | .ptr p _=>(match σ'[p]? with | some (.cells [.int _ i])=>6 - i.toNat | _=>0) | _=>0) ⟨_,0,([],-1),[],rfl,by simp,by simp,by simp,by simp,by simp [tiH],by omega,by rw [← Wg0];rfl,by simp [lV,tiH]⟩ ?_
  rintro env _ ⟨u,j,acc,G,rfl,hl,g1,g5,g6,g7,hj,hF,rfl⟩
  obtain ⟨T,hT⟩:∃ x,tiH σ r acc G=x:=⟨_,rfl⟩
  have hTl:T.length=σ.length+3+G.length:=by rw [← hT];simp [tiH];omega
  have t0:∀ X:Za,(T++X)[σ.length]? = some (.cells [.int .i64 r.men,.pl 2 (r.ntcs.map Ub)]):=fun X=>by rw [← hT];simp [tiH]
  have t1:∀ X:Za,(T++X)[σ.length+1]? = some (.cells [lV acc.1]):=fun X=>by rw [← hT];simp [tiH]
  have t2:∀ X:Za,(T++X)[σ.length+2]? = some (.cells [.int .i64 acc.2]):=fun X=>by rw [← hT];simp [tiH]
  have t3:∀ (x:AObj) (X:Za),(T++x::X)[T.length]? = some x:=fun x X=>by simp
  have t4:∀ (x y:AObj) (X:Za),(T++x::y::X)[T.length+1]? = some y:=fun x y X=>by simp
  rw [hT] at g7 ⊢
  rcases Qzn j r.men.toNat with hlt | hge
  ·have hlt':(j:Int)+1≤r.men:=by omega
   have hw:=w64 (n:=(j:Int)+1+1) (by omega) (by omega)
   rw [Ud6 hlt,List.foldl_append] at hF
   obtain ⟨acc2,hacc2⟩:∃ x,(Wq r.men.toNat 0 (j+1)).foldl (Vm r) acc=x:=⟨_,rfl⟩
   rw [hacc2] at hF
   obtain ⟨fn,hfn⟩:∃ x,AV.fn (.func 71) [] [.ptr σ.length 0,.ptr T.length 0,.ptr (σ.length+2) 0,.ptr (σ.length+1) 0,.ptr (T.length+1) 0]=x:=⟨_,rfl⟩
   have hat:MoAt r σ.length T.length (σ.length+2) (σ.length+1) (T.length+1) (j+1) acc (T++[.cells [.int .i64 ((j:Int)+1)],.cells [fn]]) :=
    ⟨t0 _,by rw [t3];simp,t2 _,t1 _,by rw [t4,hfn],by omega,by omega,by omega,by omega,by omega,by omega,by omega⟩
   have cM:=Vc4 r h (many:=j+1) (by omega) (by omega) (j+1) [] 0 acc _ hat (by simp) (by omega)
   obtain ⟨T2,hT2⟩:∃ x,tiH σ r acc2 G=x:=⟨_,rfl⟩
   have hset:∀ X:Za,set2 (T++X) (σ.length+2) (σ.length+1) acc2=T2++X:=fun X=>by
    rw [← hT,← hT2]
    unfold set2 tiH
    simp [List.set_append_right]
   have hT2l:T2.length=T.length:=by rw [← hT,← hT2];simp [tiH]
   have s0:∀ X:Za,(T2++X)[σ.length]? = some (.cells [.int .i64 r.men,.pl 2 (r.ntcs.map Ub)]):=fun X=>by rw [← hT2];simp [tiH]
   have s3:∀ (x:AObj) (X:Za),(T2++x::X)[T.length]? = some x:=fun x X=>by rw [← hT2l];simp
   have s5:∀ (x y z:AObj) (X:Za),(T2++x::y::z::X)[T.length+2]? = some z:=fun x y z X=>by rw [← hT2l];simp
   have s6:∀ (x y z w:AObj),(T2++[x,y,z]).set (T.length+2) w=T2++[x,y,w]:=fun x y z w=>by rw [← hT2l];simp
   rw [show (Wq r.men.toNat 0 (j+1)).map (([]:List Int)++·)=Wq r.men.toNat 0 (j+1) by simp,hacc2,hset] at cM
   have hlV0:lV []=.nils:=rfl
   have hfn2:=hfn
   rw [hlV0] at cM
   simp [hl,g1,g5,g6,g7,hlt',hfn,t0,t3,t4]
   refine StA.of (ACalls.mono (by simpa using cM) ?_)
   rintro _ _ ⟨rfl,rfl⟩
   simp [hl,g1,g5,g6,g7,s3,s5,s6,hT2l,hw]
   refine ⟨⟨j+1,acc2.1,acc2.2,G++[.cells [.int .i64 ((j:Int)+1)],.cells [fn]],?_,by omega,hF,?_⟩,by omega⟩
   ·rw [hTl];simp [tiH];omega
   ·rw [← hT2];simp [tiH]
  ·have hge':¬ (j:Int)+1≤r.men:=by omega
   rw [Zej hge] at hF
   have hF':acc=Zad r:=hF
   rw [hF'] at t1
   simp [hl,g1,g5,g6,g7,hge',t0,t1,t2,t3]
   rw [← hT,hF']
   simp [tiH,e]
end Ab
namespace Ab
open Go Go.RowKit Go.Proofs
theorem ChF.set:∀ {rs:List (Int × List Int)} {cs:List Int},ChF rs cs→∀ (i:Nat) (r:Int × List Int) (c:Int),rs[i]? = some r→c∈r.2→ChF rs (cs.set i c)
 | [],[],h,i,r,c,hr,_=>by simp at hr
 | r0::rs,c0::cs,h,0,r,c,hr,hc=>by
  simp at hr
  subst hr
  exact ⟨hc,h.2⟩
 | r0::rs,c0::cs,h,i+1,r,c,hr,hc=>⟨h.1,ChF.set h.2 i r c (by simpa using hr) hc⟩
theorem Uhe {b:Bx} (hb:b.Ok) {R:Rl} (ok:R.Ok) (h4:R.men≤4) (hR:b.rs=Ze R) {cs:List Int} (hc:ChF b.rs cs) {i m:Nat} (h:Ubl b cs i m):sqC (cs.set i m)<sqC cs∧ChF b.rs (cs.set i m):=by
 obtain ⟨r,c,x,y,h1,h2,h3,h5,h6,h7,h8,h9⟩:=h
 have hri:b.rs[i]? = some (b.fee r,r.may):=by
  obtain ⟨hi,hri⟩:=Qzs.1 h1
  simp [Bx.rs,Qze hi,hri]
 have hset:=hc.set i _ (m:Int) hri h6
 refine ⟨?_,hset⟩
 have okr:r.Ok b.criers:=hb.each _ (Qzg h1)
 have hcb:=okr.mem c (hc.get i _ c hri h2)
 have hmb:=okr.mem (m:Int) h6
 have hc4:=hb.c4
 have hfee:b.fee r=1:=by
  rw [hR] at hri
  unfold Ze at hri
  rw [Qzp,Qzm] at hri
  obtain ⟨n,_,e⟩:=hri
  exact (congrArg Prod.fst e).symm
 have hc':=hc
 rw [hR] at hc'
 obtain ⟨_,f2,_⟩:=Var ok h4 hc'
 have hfe:b.fees cs=Vi (Ze R) cs fee0:=by unfold Bx.fees;rw [hR];rfl
 rw [hfe,f2 m (by omega)] at h7
 rw [hfe,f2 c.toNat (by omega)] at h8
 have e7:=Option.some.inj h7
 have e8:=Option.some.inj h8
 rw [show ((c.toNat:Nat):Int)=c by omega] at e8
 refine Yel h2 (by omega) (by omega) ?_
 rw [hfee] at h9
 unfold Vl
 omega
theorem Yfj (cs:List Int):((Ya cs).map fun a=>(AV.cells a).length).sum=cs.length:=by
 unfold Ya
 induction cs with
 | nil=>rfl
 | cons x cs ih =>
  rw [List.map_cons,List.map_cons,List.sum_cons,ih,List.length_cons]
  simp [AV.cells]
  omega
theorem Wc8 (cs:List Int):List.flatMap AV.cells (Ya cs)++List.replicate (cs.length - ((Ya cs).map fun a=>(AV.cells a).length).sum) (AV.int IntKind.i64 0)=Ya cs:=by
 have h1:List.flatMap AV.cells (Ya cs)=Ya cs:=Vaf cs
 rw [h1,Yfj,Nat.sub_self]
 simp
theorem Whj (cs:List Int) (i:Nat) (m:Int) (h:i<cs.length):List.take i (Ya cs)++AV.int IntKind.i64 m::List.drop (i+1) (Ya cs)=Ya (cs.set i m):=by
 unfold Ya
 rw [List.map_set,List.set_eq_take_append_cons_drop,if_pos (by simpa using h)]
attribute [local irreducible] aws awp aw1 Og Om Oc Oa Ogd Ov Ot awd Ua awh Xb Ogh Ohd awl Ogl Ohl awv Ogv Ohv Wb Vb QFn Zc Vg QRo QBe Yf Yg ACode AYield
set_option maxHeartbeats 8000000 in
theorem Xek (b:Bx) (h:b.Ok) {R:Rl} (ok:R.Ok) (h4:R.men≤4) (hR:b.rs=Ze R) (cs:List Int) (hc:ChF b.rs cs) (σ:Za) :
  ACalls Tryz.prog 18 [Zi b,.pl 1 (Ya cs)] σ fun v s=>∃ (cs':List Int) (k:Int),ChF b.rs cs'∧v=.tup [.pl 1 (Ya cs'),.int .i64 k,.int .i64 0]∧s=σ:=by
 refine ACalls.forgetT ?_
 refine Yee Tryz.func18 rfl (Zb Tryz.func18 (by decide) rfl) ?_
 have hcl:=hc.len
 have hrl:b.rs.length=b.rounds.length:=by simp [Bx.rs]
 have hfew:=h.few
 have hil:(Ya cs).length=cs.length:=by simp [Ya]
 have hb0:Zi b=.agg [.int .i64 b.criers,.int .i64 b.word,.int .i64 b.stand,.int .i64 b.fine,.pl 3 (b.rounds.map Wc)]:=rfl
 have cS:=Xbx b h cs hc
 rw [hb0] at cS ⊢
 have hm1:(cs.length:Int)*8≤281474976710656:=by omega
 have hm2:(cs.length:Int)≤9223372036854775807:=by omega
 simp [Tryz.ntmps18]
 refine StA.of ((cS _).mono ?_)
 rintro _ _ ⟨rfl,dd,rfl⟩
 simp [hil,hm1,hm2]
 erw [Wc8]
 obtain ⟨bc,hbc⟩:∃ x,AObj.cells [AV.int IntKind.i64 b.criers,AV.int IntKind.i64 b.word,AV.int IntKind.i64 b.stand,AV.int IntKind.i64 b.fine,AV.pl 3 (List.map Wc b.rounds)]=x:=⟨_,rfl⟩
 rw [hbc]
 obtain ⟨W,hW⟩:∃ W,σ++(bc::bc::bc::.cells (Xc b)::dd)=W:=⟨_,rfl⟩
 have hWl:W.length=σ.length+(dd.length+1+1+1+1):=by rw [← hW];simp
 have hH:σ++bc::bc::bc::AObj.cells (Xc b)::(dd++[AObj.cells (Ya cs),AObj.cells [AV.arr 1 (σ.length+(dd.length+1+1+1+1)) 0 cs.length]])=W++[.cells (Ya cs),.cells [.arr 1 W.length 0 cs.length]]:=by rw [hWl,← hW];simp
 rw [hH]
 have hq:∀ X:Za,(W++X)[σ.length+1+2]? = some (.cells (Xc b)):=fun X=>by rw [← hW,Nat.add_assoc];simp
 have w0:∀ (x:AObj) (X:Za),(W++x::X)[W.length]? = some x:=fun x X=>by simp
 have w1:∀ (x y:AObj) (X:Za),(W++x::y::X)[W.length+1]? = some y:=fun x y X=>by simp
 have hn:=cs.length
 obtain ⟨n,hn⟩:∃ n,cs.length=n:=⟨_,rfl⟩
 refine Wd (fun env σ'=>∃ (u:List AV) (m:List Nat) (cs':List Int) (k:Int) (G:Za),env={ t:=u,m:=m }∧u.length=44∧tg u 7=.ptr (σ.length+1+2) 0∧tg u 9=.ptr (W.length+1) 0∧tg u 10=.int .i64 k∧ChF b.rs cs'∧m.Nodup∧(∀ r∈m,W.length+2≤r∧σ'[r]? = some .deferred) ∧
   σ'=W++(.cells (Ya cs')::.cells [.arr 1 W.length 0 n]::G))
  (fun _ σ'=>match σ'[W.length]? with | some (.cells l)=>sqC (l.map fun v=>match v with | .int _ x=>x | _=>0) | _=>0) ⟨_,[],cs,0,[],rfl,by simp,by simp,by simp [hWl];omega,by simp,hc,List.nodup_nil,fun r hr=>by simp at hr,by rw [hn]⟩ ?_
 rintro env _ ⟨u,m,cs',k,G,rfl,hl,g7,g9,g10,hc',hmn,hmd,rfl⟩
 have hcl':cs'.length=n:=by rw [hc'.len,← hn,hcl]
 obtain ⟨V,hV⟩:∃ x,W++(.cells (Ya cs')::.cells [.arr 1 W.length 0 n]::G)=x:=⟨_,rfl⟩
 have hVl:V.length=W.length+2+G.length:=by rw [← hV];simp;omega
 have v1:∀ X:Za,(V++X)[W.length+1]? = some (.cells [.arr 1 W.length 0 n]):=fun X=>by rw [← hV];simp
 have v0:∀ X:Za,(V++X)[W.length]? = some (.cells (Ya cs')):=fun X=>by rw [← hV];simp
 have v3:∀ (x:AObj) (X:Za),(V++x::X)[V.length]? = some x:=fun x X=>by simp
 have vq:∀ X:Za,(V++X)[σ.length+1+2]? = some (.cells (Xc b)):=fun X=>by rw [← hV,List.append_assoc];exact hq _
 rw [hV] at hmd ⊢
 have cM:=Uhk b h (V++[.cells [.bool false]]) (σ.length+1+2) (vq _) cs' hc' W.length (v0 _)
 rw [hcl'] at cM
 simp [hl,g7,g9,g10,v1]
 refine Yaw ?_
 simp [hl,g7,g9,g10,v1]
 refine StA.of ((cM).mono ?_)
 rintro _ _ ⟨a,c,x,y,rfl,rfl,ha,hcc⟩
 have hl0:(V++[AObj.cells [.bool false]]).length=V.length+1:=by simp
 rw [hl0]
 obtain ⟨Vf,hVf⟩:∃ Vf:List Int→Za,Vf=fun cs=>W++(.cells (Ya cs)::.cells [.arr 1 W.length 0 n]::G):=⟨_,rfl⟩
 have hVfl:∀ cs,(Vf cs).length=V.length:=fun cs=>by rw [hVf,← hV];simp
 have hVV:Vf cs'=V:=by rw [hVf];exact hV
 have u0:∀ cs X,(Vf cs++X)[W.length]? = some (.cells (Ya cs)):=fun cs X=>by rw [hVf];simp
 have u1:∀ cs X,(Vf cs++X)[W.length+1]? = some (.cells [.arr 1 W.length 0 n]):=fun cs X=>by rw [hVf];simp
 have uset:∀ cs X l,(Vf cs++X).set W.length (.cells (Ya l))=Vf l++X:=fun cs X l=>by rw [hVf];simp
 have uq:∀ cs X,(Vf cs++X)[σ.length+1+2]? = some (.cells (Xc b)):=fun cs X=>by rw [hVf,List.append_assoc];exact hq _
 obtain ⟨Kf,hKf⟩:∃ Kf:List Int→Bool→Za,Kf=fun cs fl=>Vf cs++[.cells [.bool fl],.cells [.ptr (σ.length+1+2) 0],.cells [.arr 1 W.length 0 n],x,y,.deferred]:=⟨_,rfl⟩
 have hKl:∀ cs fl,(Kf cs fl).length=V.length+6:=fun cs fl=>by rw [hKf];simp [hVfl]
 have hK0:∀ o:AObj,V++[AObj.cells [.bool false]]++[.cells [.ptr (σ.length+1+2) 0],.cells [.arr 1 W.length 0 n],x,y]++[.deferred,o]=Kf cs' false++[o]:=fun o=>by rw [hKf,← hVV];simp
 have k0:∀ cs fl X,(Kf cs fl++X)[W.length]? = some (.cells (Ya cs)):=fun cs fl X=>by rw [hKf,List.append_assoc];exact u0 _ _
 have k1:∀ cs fl X,(Kf cs fl++X)[W.length+1]? = some (.cells [.arr 1 W.length 0 n]):=fun cs fl X=>by rw [hKf,List.append_assoc];exact u1 _ _
 have kf:∀ cs fl X,(Kf cs fl++X)[V.length]? = some (.cells [.bool fl]):=fun cs fl X=>by rw [hKf,← hVfl cs];simp
 have kd:∀ cs fl X,(Kf cs fl++X)[V.length+1]? = some (.cells [.ptr (σ.length+1+2) 0]):=fun cs fl X=>by rw [hKf,← hVfl cs];simp
 have ks:∀ cs fl X,(Kf cs fl++X)[V.length+2]? = some (.cells [.arr 1 W.length 0 n]):=fun cs fl X=>by rw [hKf,← hVfl cs];simp
 have km:∀ cs fl X,(Kf cs fl++X)[V.length+5]? = some .deferred:=fun cs fl X=>by rw [hKf,← hVfl cs];simp
 have ko:∀ cs fl (z:AObj) X,(Kf cs fl++z::X)[V.length+6]? = some z:=fun cs fl z X=>by rw [← hKl cs fl];simp
 have kos:∀ cs fl (z w:AObj) X,(Kf cs fl++z::X).set (V.length+6) w=Kf cs fl++w::X:=fun cs fl z w X=>by rw [← hKl cs fl];simp
 have kl:∀ cs fl (z w:AObj) X,(Kf cs fl++z::w::X)[V.length+7]? = some w:=fun cs fl z w X=>by rw [show V.length+7=(Kf cs fl).length+1 by rw [hKl]];simp
 have kset:∀ cs fl X l,(Kf cs fl++X).set W.length (.cells (Ya l))=Kf l fl++X:=fun cs fl X l=>by rw [hKf,List.append_assoc,uset,List.append_assoc]
 have kfs:∀ cs fl X fl',(Kf cs fl++X).set V.length (.cells [.bool fl'])=Kf cs fl'++X:=fun cs fl X fl'=>by rw [hKf,← hVfl cs];simp
 have kq:∀ cs fl X,(Kf cs fl++X)[σ.length+1+2]? = some (.cells (Xc b)):=fun cs fl X=>by rw [hKf,List.append_assoc];exact uq _ _
 have kX:∀ (r:Nat) (z:AObj) (X:Za),(V++[AObj.cells [.bool false]]++[.cells [.ptr (σ.length+1+2) 0],.cells [.arr 1 W.length 0 n],x,y])[r]? = some z→(Kf cs' false++X)[r]? = some z:=fun r z X hz=>by
  have e:Kf cs' false++X=(V++[AObj.cells [.bool false]]++[.cells [.ptr (σ.length+1+2) 0],.cells [.arr 1 W.length 0 n],x,y])++(.deferred::X):=by rw [hKf,← hVV];simp
  rw [e,Qzl (Qzs.1 hz).1]
  exact hz
 have ka:=fun X=>kX a _ X ha
 have kc:=fun X=>kX c _ X hcc
 simp [hl,g7,g9,g10,v1,-List.append_assoc]
 refine Uc4 (gf:=159) (first:=[]) (caps:=[.ptr (V.length+1+1) 0,.ptr (V.length+1) 0,.ptr a 0,.ptr c 0]) (V.length+5) (V.length+6) (by simp) rfl (by simp [hl]) fun fn D o σ2 ho hrd hσ2=>?_
 subst hσ2
 rw [hK0]
 have hoL:∀ cs,o≠.cells cs:=fun cs e=>by rw [ho] at e;cases e
 refine AEnter.mono (Yfe b h (Kf cs' false++[o]) (σ.length+1+2) (kq _ _ _) cs' hc' W.length (k0 _ _ _) (V.length+1+1) (V.length+1) a c (V.length+6) (by rw [hcl'];exact ks _ _ _) (kd _ _ _) (ka _) (kc _)
  (fun s=>∃ i m:Nat,Ubl b cs' i m∧s=Kf (cs'.set i m) true++[Vav (.exit 2) o,.cells [.int .i64 i,.int .i64 m]]) ?_) ?_
 ·intro i m' hit
  refine ⟨_,AYield.roundJ ho (ko _ _ _ _) (by simp) fun oB hoB=>?_,i,m',hit,rfl⟩
  clear ho
  have hin:i<n:=by
   obtain ⟨r,c',x',y',_,h2,_⟩:=hit
   have:=(Qzs.1 h2).1
   omega
  have hil2:i+1≤(Ya cs').length:=by simp [Ya];omega
  simp [hl,g7,g9,g10,ko,kos,kl,k0,k1]
  rw [if_pos hin,Wl]
  simp [k0,hil2]
  rw [Whj _ _ _ (by omega),kset]
  simp [kf]
  rw [kfs]
  exact ⟨ko _ _ _ _,kos _ _ _ _ _⟩
 ·rintro _ s (rfl | ⟨i,m',hit,rfl⟩)
  ·refine .inl ⟨by rw [ko];rw [hrd];trivial,?_⟩
   rw [kos]
   clear ho
   simp [hl,g7,g9,g10,kf,k1]
   rw [Xgv]
   have hmV:∀ r∈m,r<V.length∧∀ X,(Kf cs' false++X)[r]? = some .deferred:=fun r hr=>by
    have h1:=(hmd r hr).2
    have h2:=(Qzs.1 h1).1
    refine ⟨h2,fun X=>?_⟩
    rw [hKf]
    show (Vf cs'++_++X)[r]? = _
    rw [hVV,List.append_assoc,Qzl h2]
    exact h1
   refine Ygo ((V.length+5)::m) _ (List.nodup_cons.2 ⟨fun hr=>by have:=(hmV _ hr).1;omega,hmn⟩) (fun r hr=>by
    rcases List.mem_cons.1 hr with rfl | hr
    ·exact km _ _ _
    ·exact (hmV r hr).2 _) fun s hsl hsk=>?_
   unfold Yac
   simp [hl]
   have hWle:σ.length+4≤W.length:=by omega
   have hs:s=σ++s.drop σ.length:=by
    apply List.ext_getElem?
    intro r
    rcases Qzn r σ.length with h1 | h1
    ·rw [Qzl h1,hsk r (fun hr=>by
      rcases List.mem_cons.1 hr with rfl | hr
      ·omega
      ·have:=(hmd r hr).1;omega),hKf]
     show (Vf cs'++_++_)[r]? = _
     rw [hVV,← hV,← hW]
     simp [Qzl h1]
    ·rw [Qzr h1,List.getElem?_drop,show σ.length+(r - σ.length)=r by omega]
   have hsW:s[W.length]? = some (.cells (Ya cs')):=by
    rw [hsk _ (fun hr=>by
     rcases List.mem_cons.1 hr with e | hr
     ·omega
     ·have:=(hmd _ hr).1;omega)]
    exact k0 _ _ _
   have hfz:=Wbh (n:=σ.length) (S:=s) (r:=W.length) (l:=cs') (by omega) hsW
   rw [hcl'] at hfz
   refine ⟨σ,s.drop σ.length,hs,rfl,fun r o h=>.inl h,_,?_,cs',hc',⟨k,rfl⟩,rfl⟩
   simp [hfz]
  ·refine .inr (.inr ⟨2,by rw [ko];exact Ye6 _ hrd,?_⟩)
   rw [kos]
   clear ho
   obtain ⟨hless,hcs2⟩:=Uhe h ok h4 hR hc' hit
   simp [hl,g7,g9,g10,kf,k1]
   refine ⟨⟨_,_,⟨rfl,rfl⟩,by simp [hl],by simp [hl,g7],by simp [hl,g9],⟨_,by simp [hl];rfl⟩,cs'.set i m',hcs2,List.nodup_cons.2 ⟨fun hr=>by have:=(Qzs.1 (hmd _ hr).2).1;omega,hmn⟩,fun r hr=>?_,?_⟩,?_⟩
   ·rcases List.mem_cons.1 hr with rfl | hr
    ·exact ⟨by omega,km _ _ _⟩
    ·refine ⟨(hmd r hr).1,?_⟩
     have h1:=(hmd r hr).2
     have h2:=(Qzs.1 h1).1
     have h3:=(hmd r hr).1
     have e:(Vf (cs'.set i m'))[r]? = some .deferred:=by
      rw [hVf]
      rw [← hV] at h1
      rw [Qzr (by omega)] at h1 ⊢
      rw [show r - W.length=(r - W.length - 2)+1+1 by omega] at h1 ⊢
      rw [List.getElem?_cons_succ,List.getElem?_cons_succ] at h1 ⊢
      exact h1
     rw [hKf,List.append_assoc,Qzl (by rw [hVfl];exact h2)]
     exact e
   ·exact ⟨_,by rw [hKf,hVf];simp;rfl⟩
   ·rw [k0,show V[W.length]? = some (.cells (Ya cs')) by have:=v0 [];rwa [List.append_nil] at this]
    simpa [Ya,Function.comp_def] using hless
end Ab
namespace Ab
open Go Go.RowKit Go.Proofs
def Zv (x:Ntc):Ntc:=⟨1,x.men⟩
def Un (r:Rl) (i:Nat):List Ntc:=(r.ntcs.take i).map Zv++r.ntcs.drop i
def Vah (x:Ntc):AV:=.agg [.int .i64 1,.int .i64 1,.pl 1 (Ya x.men)]
theorem Xaz (r:Rl) (i:Nat) (h:i≤r.ntcs.length):(Un r i).length=r.ntcs.length:=by unfold Un;simp;omega
theorem Vck (r:Rl):Un r 0=r.ntcs:=by simp [Un]
theorem Vc9 (r:Rl) (i:Nat) (h:i<r.ntcs.length):(Un r i)[i]? = some r.ntcs[i]:=by
 unfold Un
 rw [Qzr (by simp;omega)]
 simp
 rw [Nat.min_eq_left (by omega),Nat.sub_self,Nat.add_zero,Qze h]
theorem Zby (r:Rl) (i:Nat) (h:i<r.ntcs.length):(Un r i).set i (Zv r.ntcs[i])=Un r (i+1):=by
 unfold Un
 rw [List.set_append_right _ _ (by simp;omega),List.length_map,List.length_take,Nat.min_eq_left (by omega),Nat.sub_self,List.drop_eq_getElem_cons h,List.set_cons_zero,Qzt h,List.map_append,List.append_assoc]
 rfl
theorem Vbv:∀ (L:List Ntc) (i:Nat) (x:Ntc),L[i]? = some x→((L.map Ub).flatMap AV.cells).set (i*2) (.int .i64 1)=((L.set i (Zv x)).map Ub).flatMap AV.cells
 | [],i,x,h=>by simp at h
 | y::L,0,x,h=>by
  simp at h
  subst h
  rfl
 | y::L,i+1,x,h=>by
  have ih:=Vbv L i x (by simpa using h)
  have e:(((y::L).map Ub).flatMap AV.cells)=.int .i64 y.times::.pl 1 (Ya y.men)::((L.map Ub).flatMap AV.cells):=rfl
  have e2:((((y::L).set (i+1) (Zv x)).map Ub).flatMap AV.cells)=.int .i64 y.times::.pl 1 (Ya y.men)::(((L.set i (Zv x)).map Ub).flatMap AV.cells):=rfl
  rw [e,e2,show (i+1)*2=i*2+1+1 by omega,List.set_cons_succ,List.set_cons_succ,ih]
theorem Xcd:∀ (L:List Ntc) (i:Nat) (x:Ntc),L[i]? = some x→((L.map Ub).flatMap AV.cells)[i*2]? = some (.int .i64 x.times)∧((L.map Ub).flatMap AV.cells)[i*2+1]? = some (.pl 1 (Ya x.men))
 | [],i,x,h=>by simp at h
 | y::L,0,x,h=>by
  simp at h
  subst h
  exact ⟨rfl,rfl⟩
 | y::L,i+1,x,h=>by
  have ih:=Xcd L i x (by simpa using h)
  have e:(((y::L).map Ub).flatMap AV.cells)=.int .i64 y.times::.pl 1 (Ya y.men)::((L.map Ub).flatMap AV.cells):=rfl
  rw [e,show (i+1)*2=i*2+1+1 by omega]
  exact ih
theorem Zbn:∀ L:List Ntc,((L.map Ub).flatMap AV.cells).length=L.length*2
 | []=>rfl
 | y::L=>by
  have e:(((y::L).map Ub).flatMap AV.cells)=.int .i64 y.times::.pl 1 (Ya y.men)::((L.map Ub).flatMap AV.cells):=rfl
  rw [e,List.length_cons,List.length_cons,Zbn L,List.length_cons]
  omega
def Ual (l:List UInt8) (B:AObj):Prop:=∃ (a:Nat) (c:Int),a≤l.length∧B=Yc l a c
def ShI (r:Rl) (σd:Za) (v1:AV) (o:Option Nat) (p4:Nat) (σ:Za) (env:Env) (σ':Za):Prop:=∃ (u:List AV) (i:Nat) (g G:Za) (w:AV) (o2:Option Nat),env={ t:=u }∧u.length=260∧tg u 3=.ptr σ.length 0∧tg u 4=.ptr p4 0∧tg u 5=.ptr (p4+1) 0∧tg u 43=.int .i64 r.ntcs.length∧tg u 44=.int .i64 i∧i≤r.ntcs.length∧σd.length+g.length=p4 ∧
 σ'=(σd++g)++(.cells [.int .i64 r.men,v1]::.cells [.int .i64 r.men,.int .i64 0,.int .i64 1,.int .i64 0,w]::G)∧Acc σd g 2 v1 ((Un r i).map Ub) o∧Acc (σd++g++[zRl,zRl]) G 3 w ((r.ntcs.take i).map Vah) o2
attribute [local irreducible] aws awp aw1 Og Om Oc Oa Ogd Ov Ot awd Ua awh Xb Ogh Ohd awl Ogl Ohl awv Ogv Ohv Wb Vb QFn Zc Vg QRo QBe Yf Yg ACode AYield
set_option maxHeartbeats 8000000 in
theorem Wgs (l1:List UInt8) (h1:l1.length≤9223372036854775807) (σ:Za) (Q:AV→Za→Prop)
  (h2:∀ (env:Env) (s:Za),(∃ (B:AObj) (r:Rl) (v1:AV) (o:Option Nat) (p4:Nat),Ual l1 B∧r.Ok∧r.men≤4∧r.ntcs.length≤6∧ShI r (σ++[B]) v1 o p4 σ env s∧tg env.t 44=.int .i64 r.ntcs.length)→ACode Tryz.prog none (Yh 5 (Tryz.f3.body.getD .skip)).2 (QFn Tryz.prog Tryz.f3 Q) env s) :
  ACalls Tryz.prog 3 [.pl 1 (Zn l1)] σ Q:=by
 refine Xcb 5 (fun env s=>∃ (B:AObj) (r:Rl) (v1:AV) (o:Option Nat) (p4:Nat),Ual l1 B∧r.Ok∧r.men≤4∧r.ntcs.length≤6∧ShI r (σ++[B]) v1 o p4 σ env s∧tg env.t 44=.int .i64 r.ntcs.length) Tryz.func3 rfl (Zb Tryz.func3 (by decide) rfl) ?_ ?_
 ·simp [-Xa,Tryz.ntmps3]
  refine StA.of ((Xgn σ _ rfl).mono ?_)
  rintro v σ' ⟨rfl,rfl⟩
  refine StA.of ((Xfh (σ++[Yc l1 0 0]) σ.length l1 0 0 (by simp) (by omega) h1 4 6 (by omega) (by omega) (by omega)).mono ?_)
  rintro v σ' ⟨r,a1,c1,v1,g,o,rfl,ok,hm4,hn6,ha1,rfl,hA⟩
  have hset:∀ a c,(σ++[Yc l1 0 0]).set σ.length (Yc l1 a c)=σ++[Yc l1 a c]:=fun a c=>by simp
  rw [hset] at hA ⊢
  obtain ⟨B,hB⟩:∃ B,Yc l1 a1 c1=B:=⟨_,rfl⟩
  rw [hB] at hA ⊢
  have hBA:Ual l1 B:=⟨a1,c1,ha1,hB.symm⟩
  have hv1:v1.one=true:=by
   have:=hA.val
   cases o with
   | none=>rw [this.1];rfl
   | some j=>rw [this.1];rfl
  obtain ⟨T,hT⟩:∃ T,σ++[B]++g=T:=⟨_,rfl⟩
  rw [hT]
  have hTl:(σ++[B]).length+g.length=T.length:=by rw [← hT];simp;omega
  have t0:∀ (x:AObj) (X:Za),(T++x::X)[T.length]? = some x:=fun x X=>by simp
  have t1:∀ (x y:AObj) (X:Za),(T++x::y::X)[T.length+1]? = some y:=fun x y X=>by simp
  cases o with
  | none =>
   obtain ⟨rfl,hK⟩:=hA.val
   have hK0:r.ntcs.length=0:=by have:=congrArg List.length hK;simpa using this
   simp [-Xa,t0,t1]
   refine Wd (fun env σ'=>ShI r (σ++[B]) .nils none T.length σ env σ'∧tg env.t 44=.int .i64 r.ntcs.length∧tg env.t 43=.int .i64 r.ntcs.length) (fun _ _=>0) ⟨⟨_,0,g,[],.nils,none,rfl,by simp,by simp,by simp,by simp,by simp [hK0],by simp,by omega,hTl,by rw [hT],by rw [Vck];exact hA,by simpa using Acc.nil _ _ _⟩,by simp [hK0],by simp [hK0]⟩ ?_
   rintro env s ⟨⟨u,i,g',G,w,o2,rfl,hl,g3,g4,g5,g43,g44,hi,hp4,rfl,hA1,hA2⟩,h44,h43⟩
   have hge:¬ (i:Int)<(r.ntcs.length:Int):=by omega
   simp [-Xa,hl,g3,g4,g5,g43,g44,hge]
   exact ⟨B,hBA,r,ok,hm4,hn6,⟨.nils,none,T.length,_,i,g',G,w,o2,rfl,by simp [hl],by simp [hl,g3],by simp [hl,g4],by simp [hl,g5],by simp [hl,g43],by simp [hl,g44],hi,hp4,by simp,hA1,hA2⟩,by omega⟩
  | some j =>
   obtain ⟨rfl,hgj⟩:=hA.val
   have hgl:=(Qzs.1 hgj).1
   simp [-Xa,t0,t1]
   refine Wd (fun env σ'=>ShI r (σ++[B]) (.arr 2 ((σ++[B]).length+j) 0 (r.ntcs.map Ub).length) (some j) T.length σ env σ') (fun env _=>match tg env.t 44 with | .int _ i=>r.ntcs.length - i.toNat | _=>0) ⟨_,0,g,[],.nils,none,rfl,by simp,by simp,by simp,by simp,by simp,by simp,by omega,hTl,by rw [hT];simp,by rw [Vck];exact hA,by simpa using Acc.nil _ _ _⟩ ?_
   rintro env _ ⟨u,i,g',G,w,o2,rfl,hl,g3,g4,g5,g43,g44,hi,hp4,rfl,hA1,hA2⟩
   rcases Qzn i r.ntcs.length with hlt | hge
   ·have hlt':(i:Int)<(r.ntcs.length:Int):=by omega
    have hw:=w64 (n:=(i:Int)+1) (by omega) (by omega)
    have hT0:(σ++[B]++g').length=T.length:=by rw [List.length_append];exact hp4
    obtain ⟨H,hH⟩:∃ H,σ++[B]++g'=H:=⟨_,rfl⟩
    have hHl:H.length=T.length:=by rw [← hH];exact hT0
    have a0:∀ (x:AObj) (X:Za),(H++x::X)[T.length]? = some x:=fun x X=>by rw [← hHl];simp
    have a1:∀ (x y:AObj) (X:Za),(H++x::y::X)[T.length+1]? = some y:=fun x y X=>by rw [← hHl];simp
    rw [hH]
    obtain ⟨x,hx⟩:∃ x,r.ntcs[i]=x:=⟨_,rfl⟩
    have hxo:x.Ok r.men:=hx▸ok.each _ (List.getElem_mem hlt)
    have hmx:(Un r i)[i]? = some x:=by rw [Vc9 r i hlt,hx]
    have hg1:=hA1.val.2
    have hsd:(σ++[B]).length=σ.length+1:=by simp
    have hjl:=(Qzs.1 hg1).1
    have hHj:∀ X:Za,(H++X)[σ.length+1+j]? = some (.cells (((Un r i).map Ub).flatMap AV.cells)):=fun X=>by
     rw [← hH,List.append_assoc,Qzr (by omega),hsd,Nat.add_sub_cancel_left,Qzl hjl];exact hg1
    obtain ⟨C,hC⟩:∃ C,((Un r i).map Ub).flatMap AV.cells=C:=⟨_,rfl⟩
    have hCl:C.length=r.ntcs.length*2:=by rw [← hC,Zbn,Xaz r i hi]
    obtain ⟨C2,hC2⟩:∃ C2,((Un r (i+1)).map Ub).flatMap AV.cells=C2:=⟨_,rfl⟩
    have hset2:List.take (i*2) C++AV.int IntKind.i64 1::List.drop (i*2+1) C=C2:=by
     have:=Vbv (Un r i) i x hmx
     rw [← hx,Zby r i hlt,hC,hC2,List.set_eq_take_append_cons_drop,if_pos (by omega)] at this
     exact this
    obtain ⟨H2,hH2⟩:∃ H2,σ++[B]++g'.set j (.cells C2)=H2:=⟨_,rfl⟩
    have hH2l:H2.length=T.length:=by rw [← hH2,← hHl,← hH];simp
    have hHs:∀ X:Za,(H++X).set (σ.length+1+j) (.cells C2)=H2++X:=fun X=>by
     rw [← hH,← hH2,List.append_assoc,List.set_append_right _ _ (by omega),hsd,Nat.add_sub_cancel_left,List.set_append_left _ _ hjl]
     simp only [List.append_assoc]
    rw [hC] at hHj
    have b0:∀ (x:AObj) (X:Za),(H2++x::X)[T.length]? = some x:=fun x X=>by rw [← hH2l];simp
    have b1:∀ (x y:AObj) (X:Za),(H2++x::y::X)[T.length+1]? = some y:=fun x y X=>by rw [← hH2l];simp
    have b1s:∀ (x y z:AObj) (X:Za),(H2++x::y::X).set (T.length+1) z=H2++x::z::X:=fun x y z X=>by rw [← hH2l];simp
    have hg2:(g'.set j (.cells C2))[j]? = some (.cells C2):=List.getElem?_set_self hjl
    have bj:∀ X:Za,(H2++X)[σ.length+1+j]? = some (.cells C2):=fun X=>by
     rw [← hH2,List.append_assoc,Qzr (by omega),hsd,Nat.add_sub_cancel_left,Qzl (by simpa using hjl)];exact hg2
    have hlt2:i*2+1≤C.length:=by omega
    simp [-Xa,hl,g3,g4,g5,g43,g44,hlt',a0,a1]
    rw [if_pos hlt,Wl]
    simp [-Xa,hHj,hlt2]
    rw [hset2,hHs]
    refine Xp [11,13] [] mixed (by kernel_rfl) (by kernel_rfl) ?_
    have hlt3:i*2+1+1≤C2.length:=by rw [← hC2,Zbn,Xaz r _ (by omega)];omega
    have hmx2:(Un r (i+1))[i]? = some (Zv x):=by
     rw [← Zby r i hlt,hx,List.getElem?_set_self (by rw [Xaz r i hi];exact hlt)]
    have hC2g:C2[i*2+1]? = some (.pl 1 (Ya x.men)):=by rw [← hC2];exact (Xcd _ i _ hmx2).2
    have hsh:=hxo.short ok.m5
    simp [-Xa,hl,g3,g4,g5,g43,g44,hlt',hlt,b0,b1,bj]
    rw [if_pos hlt3,hC2g,Ub7]
    refine Yaq (Yed x.men (by omega)) ?_
    have hrI:Zam x.men=.pl 1 (Ya x.men):=rfl
    rw [hrI]
    simp [-Xa,hl,g3,g4,g5,g43,g44,hlt',hlt,b0,b1,bj]
    obtain ⟨c4,hc4⟩:∃ c,AObj.cells [AV.int IntKind.i64 r.men,AV.arr 2 (σ.length+1+j) 0 r.ntcs.length]=c:=⟨_,rfl⟩
    have hA3:=hA2.base (σ':=H2++[c4,.cells [AV.int IntKind.i64 r.men,AV.int IntKind.i64 0,AV.int IntKind.i64 1,AV.int IntKind.i64 0,w]]) (by rw [hH];simp [hH2l,hHl])
    obtain ⟨w',G',o',he,hA4,_,_,_⟩:=hA3.app (P:=Tryz.prog) (t:=29) (e:=37) (ag:=true) (ys:=[Vah x]) (y:=.pl 3 [Vah x]) (by simp) (by simp) (by simp) (by omega) (fun y hy=>by
     rw [List.mem_singleton.1 hy]
     refine ⟨rfl,fun z hz=>?_⟩
     simp [Vah,AV.cells] at hz
     rcases hz with rfl | rfl<;>rfl) (by simp [Vah,AV.cells]) (by simp;omega)
    obtain ⟨jo,rfl⟩:∃ jo,o'=some jo:=by
     cases o' with
     | none=>exact absurd hA4.val.2 (by simp)
     | some jo=>exact ⟨jo,rfl⟩
    obtain ⟨w1,hw1e⟩:∃ w1,w'=w1:=⟨_,rfl⟩
    have hwe:=hA4.val.1
    have he':Xa Tryz.prog #[29,29] w (AV.pl 3 [AV.agg [AV.int IntKind.i64 1,AV.int IntKind.i64 1,AV.pl 1 (Ya x.men)]]) (H2++c4::AObj.cells [AV.int IntKind.i64 r.men,AV.int IntKind.i64 0,AV.int IntKind.i64 1,AV.int IntKind.i64 0,w]::G)=some (w',H2++c4::AObj.cells [AV.int IntKind.i64 r.men,AV.int IntKind.i64 0,AV.int IntKind.i64 1,AV.int IntKind.i64 0,w]::G'):=by
     simpa [-Xa,Vah] using he
    rw [hc4,he',Wl]
    rw [hwe]
    simp [-Xa,b1,b1s]
    have hlen2:(Un r (i+1)).length=r.ntcs.length:=Xaz r _ (by omega)
    refine ⟨⟨_,i+1,g'.set j (.cells C2),G',w',some jo,rfl,by simp [hl],by simp [hl,g3],by simp [hl,g4],by simp [hl,g5],by simp [hl,g43],by simp [hl,hw],hlt,by simpa using hp4,?_,⟨fun y hy=>?_,?_,?_⟩,?_⟩,by rw [hw];omega⟩
    ·rw [hwe,← hH2,← hc4]
     simp
     omega
    ·obtain ⟨z,_,rfl⟩:=List.mem_map.1 hy
     exact ⟨rfl,fun a ha=>by simp [Ub,AV.cells] at ha;rcases ha with rfl | rfl<;>rfl⟩
    ·simp [hlen2]
    ·rw [hC2];exact hg2
    ·have:=hA4.base (σ':=σ++[B]++g'.set j (.cells C2)++[zRl,zRl]) (by rw [hH2];simp)
     rw [Qzt hlt,List.map_append,hx]
     exact this
   ·have hge':¬ (i:Int)<(r.ntcs.length:Int):=by omega
    simp [-Xa,hl,g3,g4,g5,g43,g44,hge']
    exact ⟨B,hBA,r,ok,hm4,hn6,⟨_,some j,T.length,_,i,g',G,w,o2,rfl,by simp [hl],by simp [hl,g3],by simp [hl,g4],by simp [hl,g5],by simp [hl,g43],by simp [hl,g44],hi,hp4,by simp,hA1,hA2⟩,by omega⟩
 ·exact h2
end Ab

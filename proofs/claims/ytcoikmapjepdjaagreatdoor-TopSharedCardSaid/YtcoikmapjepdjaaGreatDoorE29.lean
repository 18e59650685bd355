/-
  Texts packed for a claim.
-/
import Derived.Test.YtcoikmapjepdjaaGreatDoorE00
import Derived.Test.YtcoikmapjepdjaaGreatDoorE17
import Derived.Test.YtcoikmapjepdjaaGreatDoorE25
import Derived.Test.YtcoikmapjepdjaaGreatDoorE28
set_option linter.all false
namespace Ab
open Go Go.RowKit Go.Proofs
structure ShB (b:Bx) (cs:List Int):Prop where
 ch:ChF b.rs cs
theorem ChF.len:∀ {rs:List (Int × List Int)} {cs:List Int},ChF rs cs→cs.length=rs.length
 | [],[],_=>rfl
 | _::rs,_::cs,h=>by have:=ChF.len h.2;simp [this]
theorem ChF.get:∀ {rs:List (Int × List Int)} {cs:List Int},ChF rs cs→∀ (i:Nat) (r:Int × List Int) (c:Int),rs[i]? = some r→cs[i]? = some c→c∈r.2
 | [],[],_,i,r,c,hr,_=>by simp at hr
 | r0::rs,c0::cs,h,0,r,c,hr,hc=>by simp at hr hc;subst hr;subst hc;exact h.1
 | r0::rs,c0::cs,h,i+1,r,c,hr,hc=>ChF.get h.2 i r c (by simpa using hr) (by simpa using hc)
theorem Za5:∀ (rs:List (Int × List Int)) (cs f:List Int) (r:Int × List Int) (c:Int),cs.length=rs.length→Vi (rs++[r]) (cs++[c]) f=Zd (Vi rs cs f) c r.1
 | [],[],f,r,c,_=>by simp [Vi]
 | r0::rs,c0::cs,f,r,c,h=>by
  simp only [List.cons_append,Vi]
  exact Za5 rs cs _ r c (by simpa using h)
 | [],_::_,_,_,_,h=>by simp at h
 | _::_,[],_,_,_,h=>by simp at h
def Bx.fees (b:Bx) (cs:List Int):List Int:=Vi b.rs cs [0,0,0,0]
theorem Ub0 {n:Nat} {σ:Za} (a b c d:Int):Fz n σ (.agg [.int .i64 a,.int .i64 b,.int .i64 c,.int .i64 d]) (.agg [.int .i64 a,.int .i64 b,.int .i64 c,.int .i64 d]):=by simp
attribute [local irreducible] aws awp aw1 Og Om Oc Oa Ogd Ov Ot awd Ua awh Xb Ogh Ohd awl Ogl Ohl awv Ogv Ohv Wb Vb QFn Zc Vg QRo QBe Yf Yg ACode AYield
theorem Xc6 (l:List Int) (hl:l.length≤100) (hb:∀ x∈l,0≤x∧x≤100000):APure Tryz.prog 154 [.pl 1 (Ya l)] (.int .i64 (Zg l)):=by
 intro σ
 refine Yb Tryz.func154 rfl (Zb Tryz.func154 (by decide) rfl) ?_
 have hil:(Ya l).length=l.length:=by simp [Ya]
 simp [Tryz.ntmps154]
 refine Wd (fun env σ'=>∃ (u:List AV) (i:Nat),env={ t:=u }∧u.length=17∧tg u 3=.int .i64 (Zg (l.take i))∧tg u 6=.pl 1 (Ya l)∧tg u 7=.int .i64 l.length∧tg u 8=.int .i64 i∧i≤l.length∧0≤Zg (l.take i)∧Zg (l.take i)≤100000*(i:Int)∧σ'=σ)
  (fun env _=>match tg env.t 8 with | .int _ i=>l.length - i.toNat | _=>0) ⟨_,0,rfl,by simp,by simp [Zg],by simp,by simp [hil],by simp,by omega,by simp [Zg],by simp [Zg],rfl⟩ ?_
 rintro env σ1 ⟨u,i,rfl,hl0,g3,g6,g7,g8,hi,hs0,hs1,hσ⟩
 obtain rfl:=hσ.symm
 rcases Qzn i l.length with hlt | hge
 ·have hlt':(i:Int)<(l.length:Int):=by omega
  have hw:=w64 (n:=(i:Int)+1) (by omega) (by omega)
  have hx:(Ya l)[i]'(by omega)=.int .i64 l[i]:=by simp [Ya]
  have hbb:=hb l[i] (List.getElem_mem hlt)
  have hsn:Zg (l.take (i+1))=Zg (l.take i)+l[i]:=by
   rw [Qzt hlt]
   unfold Zg
   rw [List.foldl_append]
   rfl
  have hw2:=w64 (n:=Zg (l.take i)+l[i]) (by omega) (by omega)
  simp [hl0,g3,g6,g7,g8,hlt,hlt',hil,hx,hw,hw2]
  exact ⟨⟨i+1,hsn.symm,by simp,hlt,by rw [hsn];omega,by rw [hsn];omega⟩,by omega⟩
 ·obtain rfl:i=l.length:=by omega
  rw [List.take_length] at g3
  simp [hl0,g3,g6,g7,g8]
theorem Xb5 (b:Bx) (σ:Za) (q:Nat) (hq:σ[q]? = some (.cells (Xc b))) (c:Int) (i:Nat) (r:Rnd) (hr:b.rounds[i]? = some r) (hl:b.rounds.length≤100) (hm:r.may.length≤100):ACalls Tryz.prog 158 [.ptr q 0,.int .i64 c,.int .i64 i] σ fun v s=>v=.bool (decide (c∈r.may))∧s=σ:=by
 refine Yb Tryz.func158 rfl (Zb Tryz.func158 (by decide) rfl) ?_
 obtain ⟨hi,hri⟩:=Qzs.1 hr
 have hil:i<(b.rounds.map Wc).length:=by simpa using hi
 have hix:(b.rounds.map Wc)[i]'hil=.agg [.int .i64 r.words,.int .i64 r.stands,.pl 1 (Ya r.may)]:=by simp [hri,Wc]
 have hiI:(i:Int)<(b.rounds.length:Int):=by omega
 have cC:=Uau r.may c (by omega)
 simp [Tryz.ntmps158,hq,Xc,hiI,hi,hil,hix]
 refine cC.use ?_
 simp
theorem Udg (b:Bx) (h:b.Ok) (σ:Za) (q:Nat) (hq:σ[q]? = some (.cells (Xc b))) (cs:List Int) (hc:ChF b.rs cs) :
  ACalls Tryz.prog 81 [.ptr q 0,.pl 1 (Ya cs)] σ fun v s=>v=.agg (Ya (b.fees cs))∧s=σ:=by
 refine ACalls.forgetT ?_
 refine Yb Tryz.func81 rfl (Zb Tryz.func81 (by decide) rfl) ?_
 have hql:=(Qzs.1 hq).1
 have hqX:∀ X:Za,(σ++X)[q]? = some (.cells (Xc b)):=fun X=>by rw [Qzl hql];exact hq
 have hcl:=hc.len
 have hrl:b.rs.length=b.rounds.length:=by simp [Bx.rs]
 have hfew:=h.few
 have hil:(Ya cs).length=cs.length:=by simp [Ya]
 have hfl:(Ya (Zl b)).length=b.rounds.length:=by simp [Ya,Zl]
 simp [Tryz.ntmps81]
 refine Wd (fun env σ'=>∃ (u:List AV) (i:Nat) (f:List Int),env={ t:=u }∧u.length=29∧tg u 0=.ptr q 0∧tg u 4=.ptr σ.length 0∧tg u 5=.ptr (σ.length+1) 0∧tg u 8=.pl 1 (Ya cs)∧tg u 9=.int .i64 cs.length∧tg u 10=.int .i64 i∧i≤cs.length∧f=Vi (b.rs.take i) (cs.take i) [0,0,0,0]∧FeeB i f∧σ'=σ++[.cells [.int .i64 0,.int .i64 0,.int .i64 0,.int .i64 0],.cells (Ya f)])
  (fun env _=>match tg env.t 10 with | .int _ i=>cs.length - i.toNat | _=>0) ⟨_,0,[0,0,0,0],rfl,by simp,by simp,by simp,by simp,by simp,by simp [hil],by simp,by omega,by simp [Vi],⟨rfl,fun x hx=>by simp at hx;omega⟩,by simp [Ya]⟩ ?_
 rintro env _ ⟨u,i,f,rfl,hl0,g0,g4,g5,g8,g9,g10,hi,hf,hfb,rfl⟩
 match f,hfb with
 | [a0,a1,a2,a3],hfb =>
  have e0:Ya [a0,a1,a2,a3]=[.int .i64 a0,.int .i64 a1,.int .i64 a2,.int .i64 a3]:=rfl
  rcases Qzn i cs.length with hlt | hge
  ·have hlt':(i:Int)<(cs.length:Int):=by omega
   have hw:=w64 (n:=(i:Int)+1) (by omega) (by omega)
   have hi2:i<b.rounds.length:=by omega
   obtain ⟨r,hr⟩:∃ r,b.rounds[i]=r:=⟨_,rfl⟩
   have ok:r.Ok b.criers:=hr▸h.each _ (List.getElem_mem hi2)
   obtain ⟨_,f3,f4⟩:=Bx.fee_le h ok
   have hri:b.rs[i]? = some (b.fee r,r.may):=by simp [Bx.rs,Qze hi2,hr]
   obtain ⟨c,hce⟩:∃ c,cs[i]=c:=⟨_,rfl⟩
   have hc?:cs[i]? = some c:=by rw [Qze hlt,hce]
   have hcm:=hc.get i _ c hri hc?
   have hcb:=ok.mem c hcm
   have hc4:=h.c4
   have hfb2:=hfb.add h ok hcm
   have hsn:Vi (b.rs.take (i+1)) (cs.take (i+1)) [0,0,0,0]=Zd [a0,a1,a2,a3] c (b.fee r):=by
    rw [Qzt (by omega),Qzt hlt,Za5 _ _ _ _ _ (by simp;omega),← hf,hce]
    have:=(Qzs.1 hri).2
    rw [this]
   have hxx:(Ya cs)[i]'(by omega)=.int .i64 c:=by simp [Ya,hce]
   have hfx:(Ya (Zl b))[i]'(by omega)=.int .i64 (b.fee r):=by simp [Ya,Zl,hr]
   have hiI:(i:Int)<(b.rounds.length:Int):=by omega
   obtain ⟨m,rfl⟩:∃ m:Nat,c=m:=⟨c.toNat,by omega⟩
   have hm:m=0∨m=1∨m=2∨m=3:=by omega
   have b0:=hfb.2 a0 (by simp)
   have b1:=hfb.2 a1 (by simp)
   have b2:=hfb.2 a2 (by simp)
   have b3:=hfb.2 a3 (by simp)
   have x0:=w64 (n:=a0+b.fee r) (by omega) (by omega)
   have x1:=w64 (n:=a1+b.fee r) (by omega) (by omega)
   have x2:=w64 (n:=a2+b.fee r) (by omega) (by omega)
   have x3:=w64 (n:=a3+b.fee r) (by omega) (by omega)
   simp [hl0,g0,g4,g5,g8,g9,g10,hlt,hlt',hil,hxx,e0]
   refine Xp [12] [] mixed (by kernel_rfl) (by kernel_rfl) ?_
   simp [hl0,g0,g4,g5,g8,g9,g10,hqX,Xc,hiI,hi2,hfl,hfx]
   rcases hm with rfl | rfl | rfl | rfl
   ·simp [hl0,g0,g4,g5,g8,g9,g10,hqX,Xc,hiI,hi2,hfl,hfx,x0,hw]
    exact ⟨⟨i+1,by simp,hlt,by rw [hsn];exact hfb2,by rw [hsn];rfl⟩,by omega⟩
   ·simp [hl0,g0,g4,g5,g8,g9,g10,hqX,Xc,hiI,hi2,hfl,hfx,x1,hw]
    exact ⟨⟨i+1,by simp,hlt,by rw [hsn];exact hfb2,by rw [hsn];rfl⟩,by omega⟩
   ·simp [hl0,g0,g4,g5,g8,g9,g10,hqX,Xc,hiI,hi2,hfl,hfx,x2,hw]
    exact ⟨⟨i+1,by simp,hlt,by rw [hsn];exact hfb2,by rw [hsn];rfl⟩,by omega⟩
   ·simp [hl0,g0,g4,g5,g8,g9,g10,hqX,Xc,hiI,hi2,hfl,hfx,x3,hw]
    exact ⟨⟨i+1,by simp,hlt,by rw [hsn];exact hfb2,by rw [hsn];rfl⟩,by omega⟩
  ·obtain rfl:i=cs.length:=by omega
   rw [List.take_length,hcl,List.take_length] at hf
   simp [hl0,g0,g4,g5,g8,g9,g10,e0]
   refine ⟨σ,_,rfl,rfl,fun r o h=>.inl h,_,Ub0 _ _ _ _,?_,rfl⟩
   unfold Bx.fees
   rw [← hf]
   rfl
end Ab
namespace Ab
open Go Go.RowKit Go.Proofs
def blT (s m:Nat):Tab:=fun s' m'=>if s'<s∨(s'=s∧m'<m) then -1 else 0
def BlA (σ:Za) (z:AObj) (env:Env) (σ':Za):Prop:=∃ (u:List AV) (s:Nat),env={ t:=u }∧u.length=17∧tg u 0=.ptr σ.length 0∧tg u 1=.ptr (σ.length+1) 0∧tg u 4=.int .i64 s∧s≤8∧σ'=σ++[z,.cells (Xaj (blT s 0))]
def BlB (σ:Za) (z:AObj) (s:Nat) (env:Env) (σ':Za):Prop:=∃ (u:List AV) (m:Nat),env={ t:=u }∧u.length=17∧tg u 0=.ptr σ.length 0∧tg u 1=.ptr (σ.length+1) 0∧tg u 2=.int .i64 s∧tg u 4=.int .i64 s∧tg u 7=.int .i64 m∧m≤5∧σ'=σ++[z,.cells (Xaj (blT s m))]
attribute [local irreducible] aws awp aw1 Og Om Oc Oa Ogd Ov Ot awd Ua awh Xb Ogh Ohd awl Ogl Ohl awv Ogv Ohv Wb Vb QFn Zc Vg QRo QBe Yf Yg ACode AYield
theorem Zdf (r:Rl) (S:List (List Int)) (h:r.Ok) (hs:ShOk r S):APure Tryz.prog 82 [Ug r,Uj S] (.int .i64 (slotsOf r S)):=by
 refine APure.of fun σ=>?_
 refine Yb Tryz.func82 rfl (Zb Tryz.func82 (by decide) rfl) ?_
 have hr0:Ug r=.agg [.int .i64 r.men,.pl 2 (r.ntcs.map Ub)]:=rfl
 have c1:=Xch r S h hs
 have c2:=Ycd (Zs r.men.toNat S) (by have:=h.m5;simp [Zs];omega)
 have c3:=Zgh r h
 rw [hr0] at c1 c3 ⊢
 simp [Tryz.ntmps82]
 refine Yl mixed (by kernel_rfl) ?_
 try simp
 refine Xal c1 ?_
 try simp
 refine Xal c2 ?_
 try simp
 refine Xal c3 ?_
 try simp
 unfold slotsOf
 simp
theorem Veb (σ:Za) (q off:Nat) (cs:List AV) (l:List Int) (hq:σ[q]? = some (.cells cs)) (h:List.take l.length (List.drop off cs)=Ya l) (hle:off+l.length≤cs.length) (hl:l≠[]) (hll:l.length≤2^30) :
  ACalls Tryz.prog 73 [.arr 1 q off l.length] σ fun v s=>v=.arr 1 (σ.length+1) 0 l.length∧s=σ++[.cells [],.cells (Ya l)]:=by
 refine Yb Tryz.func73 rfl (Zb Tryz.func73 (by decide) rfl) ?_
 have hq':(σ++[AObj.cells []])[q]? = some (.cells cs):=by rw [Qzl (Qzs.1 hq).1];exact hq
 have ho:∀ x∈Ya l,AV.one x=true:=fun x hx=>by obtain ⟨z,_,rfl⟩:=List.mem_map.1 hx;rfl
 have hl0:¬ l.length=0:=fun e=>hl (List.eq_nil_of_length_eq_zero e)
 have hb:l.length*8≤140737488355328:=by omega
 simp [Tryz.ntmps73,hq',hle,h]
 rw [if_pos (by exact ho)]
 simp [hl,hb]
end Ab
namespace Ab
open Go Go.RowKit Go.Proofs
theorem ChF.mem {b:Bx} (h:b.Ok) {cs:List Int} (hc:ChF b.rs cs):∀ x∈cs,0≤x∧x<b.criers:=fun x hx=>by
 obtain ⟨i,hi⟩:=List.getElem?_of_mem hx
 have hil:=(Qzs.1 hi).1
 have hcl:=hc.len
 have hrl:b.rs.length=b.rounds.length:=by simp [Bx.rs]
 have hi2:i<b.rounds.length:=by omega
 have:=hc.get i (b.fee b.rounds[i],b.rounds[i].may) x (by simp [Bx.rs,Qze hi2]) hi
 exact (h.each _ (List.getElem_mem hi2)).mem x this
attribute [local irreducible] aws awp aw1 Og Om Oc Oa Ogd Ov Ot awd Ua awh Xb Ogh Ohd awl Ogl Ohl awv Ogv Ohv Wb Vb QFn Zc Vg QRo QBe Yf Yg ACode AYield
set_option maxHeartbeats 4000000 in
theorem Xbx (b:Bx) (h:b.Ok) (cs:List Int) (hc:ChF b.rs cs) (σ:Za):ACalls Tryz.prog 77 [Zi b,.pl 1 (Ya cs)] σ fun v s=>v=.tup [.ptr (σ.length+2) 0,.int .i64 0]∧∃ dd,s=σ++(.cells (Zi b).cells::.cells (Zi b).cells::.cells (Xc b)::dd):=by
 refine Yb Tryz.func77 rfl (Zb Tryz.func77 (by decide) rfl) ?_
 have hb0:Zi b=.agg [.int .i64 b.criers,.int .i64 b.word,.int .i64 b.stand,.int .i64 b.fine,.pl 3 (b.rounds.map Wc)]:=rfl
 have cO:=Va8 b h
 have hcl:=hc.len
 have hrl:b.rs.length=b.rounds.length:=by simp [Bx.rs]
 have hcr:(cs.length:Int)=(b.rounds.length:Int):=by omega
 have hcr2:cs.length=b.rounds.length:=by omega
 have hfew:=h.few
 have hmem:=hc.mem h
 have hil:(Ya cs).length=cs.length:=by simp [Ya]
 have hev:∀ σ,ACalls Tryz.prog 156 [.pl 1 (Ya cs),.fn (.func 157) [Zi b] []] σ fun v s=>v=.bool true∧s=σ:=fun σ=>Zb7 cs 157 [Zi b] [] σ (by omega) fun x hx g=>by
  have hxm:=hmem x hx
  have e:Xj x 0 (b.criers - 1)=true:=by simp [Xj];omega
  have:=Vcm b x h (σ++g)
  rw [e] at this
  exact this.mono fun v s hh=>⟨hh.1,[],by rw [hh.2];simp⟩
 rw [hb0] at cO hev ⊢
 simp [-Xa,Tryz.ntmps77]
 refine StA.of ((cO _).mono ?_)
 rintro _ _ ⟨rfl,dd,rfl⟩
 simp [-Xa,hil,hcr2]
 refine StA.of ((hev _).mono ?_)
 rintro _ _ ⟨rfl,rfl⟩
 simp [-Xa,hil,hcr2]
 obtain ⟨T,hT⟩:∃ T,(σ++AObj.cells [.int .i64 b.criers,.int .i64 b.word,.int .i64 b.stand,.int .i64 b.fine,.pl 3 (b.rounds.map Wc)]::AObj.cells [.int .i64 b.criers,.int .i64 b.word,.int .i64 b.stand,.int .i64 b.fine,.pl 3 (b.rounds.map Wc)]::AObj.cells (Xc b)::dd)=T:=⟨_,rfl⟩
 have hq:T[σ.length+2]? = some (.cells (Xc b)):=by rw [← hT];simp
 rw [hT]
 refine Wd (fun env σ'=>∃ (u:List AV) (i:Nat),env={ t:=u }∧u.length=46∧tg u 6=.ptr (σ.length+2) 0∧tg u 32=.pl 1 (Ya cs)∧tg u 33=.int .i64 b.rounds.length∧tg u 34=.int .i64 i∧i≤cs.length∧σ'=T)
  (fun env _=>match tg env.t 34 with | .int _ i=>cs.length - i.toNat | _=>0) ⟨_,0,rfl,by simp,by simp,by simp,by simp,by simp,by omega,rfl⟩ ?_
 rintro env σ1 ⟨u,i,rfl,hl0,g6,g32,g33,g34,hi,hσ⟩
 obtain rfl:=hσ.symm
 rcases Qzn i cs.length with hlt | hge
 ·have hi2:i<b.rounds.length:=by omega
  have hlt':(i:Int)<(b.rounds.length:Int):=by omega
  have hw:=w64 (n:=(i:Int)+1) (by omega) (by omega)
  obtain ⟨r,hr⟩:∃ r,b.rounds[i]=r:=⟨_,rfl⟩
  have hr?:b.rounds[i]? = some r:=by rw [Qze hi2,hr]
  have ok:r.Ok b.criers:=hr▸h.each _ (List.getElem_mem hi2)
  have hri:b.rs[i]? = some (b.fee r,r.may):=by simp [Bx.rs,Qze hi2,hr]
  obtain ⟨c,hce⟩:∃ c,cs[i]=c:=⟨_,rfl⟩
  have hc?:cs[i]? = some c:=by rw [Qze hlt,hce]
  have hcm:=hc.get i _ c hri hc?
  have hxx:(Ya cs)[i]'(by omega)=.int .i64 c:=by simp [Ya,hce]
  have cM:=Xb5 b T _ hq c i r hr? (by omega) (by have:=ok.short h.c4;omega)
  have hd:decide (c∈r.may)=true:=decide_eq_true hcm
  rw [hd] at cM
  simp [hl0,g6,g32,g33,g34,hlt,hlt',hil,hxx]
  refine StA.of (cM.mono ?_)
  rintro _ _ ⟨rfl,rfl⟩
  simp [hl0,g6,g32,g33,g34,hw]
  exact ⟨⟨i+1,by simp,hlt⟩,by omega⟩
 ·obtain rfl:i=cs.length:=by omega
  simp [hl0,g6,g32,g33,g34,hcr2]
  exact ⟨dd,hT.symm⟩
set_option maxHeartbeats 4000000 in
theorem Wg1 (b:Bx) (h:b.Ok) (cs:List Int) (hc:ChF b.rs cs):APure Tryz.prog 20 [Zi b,.pl 1 (Ya cs)] (.tup [.pl 1 (Ya ((b.fees cs).take b.criers.toNat)),.int .i64 0]):=by
 refine APure.of fun σ=>?_
 refine Yb Tryz.func20 rfl (Zb Tryz.func20 (by decide) rfl) ?_
 have hb0:Zi b=.agg [.int .i64 b.criers,.int .i64 b.word,.int .i64 b.stand,.int .i64 b.fine,.pl 3 (b.rounds.map Wc)]:=rfl
 have cS:=Xbx b h cs hc
 rw [hb0] at cS ⊢
 simp [-Xa,Tryz.ntmps20]
 refine StA.of ((cS _).mono ?_)
 rintro _ _ ⟨rfl,dd,rfl⟩
 simp [-Xa]
 refine StA.of ((Udg b h _ _ ?_ cs hc).mono ?_)
 ·rw [Qzr (by omega),show σ.length+1+2 - σ.length=3 by omega]
  rfl
 rintro _ _ ⟨rfl,rfl⟩
 have hfl:(b.fees cs).length=4:=by unfold Bx.fees;rw [Yaj];rfl
 have h1:=h.c1
 have h4:=h.c4
 obtain ⟨c,hc⟩:∃ c:Nat,b.criers=c:=⟨b.criers.toNat,by omega⟩
 have hcn:b.criers.toNat=c:=by omega
 rw [hcn]
 match hf:b.fees cs,hfl with
 | [a0,a1,a2,a3],_ =>
  have e0:Ya [a0,a1,a2,a3]=[.int .i64 a0,.int .i64 a1,.int .i64 a2,.int .i64 a3]:=rfl
  have hc4:c≤4:=by omega
  have hc0:¬ 0=c:=by omega
  rw [e0]
  simp [-Xa,hc,hc4,hc0]
  obtain ⟨L,hL⟩:∃ L,List.take c [a0,a1,a2,a3]=L:=⟨_,rfl⟩
  have hLl:L.length=c:=by rw [← hL,List.length_take];simp;omega
  obtain ⟨G,hG⟩:∃ G,AObj.cells [.int .i64 c,.int .i64 b.word,.int .i64 b.stand,.int .i64 b.fine,.pl 3 (b.rounds.map Wc)]::AObj.cells [.int .i64 c,.int .i64 b.word,.int .i64 b.stand,.int .i64 b.fine,.pl 3 (b.rounds.map Wc)]::AObj.cells [.int .i64 c,.int .i64 b.word,.int .i64 b.stand,.int .i64 b.fine,.pl 3 (b.rounds.map Wc)]::AObj.cells (Xc b)::dd=G:=⟨_,rfl⟩
  have hGl:G.length=dd.length+1+1+1+1:=by rw [← hG];simp
  have hS:(σ++AObj.cells [.int .i64 c,.int .i64 b.word,.int .i64 b.stand,.int .i64 b.fine,.pl 3 (b.rounds.map Wc)]::AObj.cells [.int .i64 c,.int .i64 b.word,.int .i64 b.stand,.int .i64 b.fine,.pl 3 (b.rounds.map Wc)]::AObj.cells [.int .i64 c,.int .i64 b.word,.int .i64 b.stand,.int .i64 b.fine,.pl 3 (b.rounds.map Wc)]::AObj.cells (Xc b)::(dd++[AObj.cells [.int .i64 a0,.int .i64 a1,.int .i64 a2,.int .i64 a3]]))=σ++(G++[AObj.cells [.int .i64 a0,.int .i64 a1,.int .i64 a2,.int .i64 a3]]):=by rw [← hG];simp
  rw [hS,← hGl]
  have cC:=Veb (σ++(G++[AObj.cells [.int .i64 a0,.int .i64 a1,.int .i64 a2,.int .i64 a3]])) (σ.length+G.length) 0 [.int .i64 a0,.int .i64 a1,.int .i64 a2,.int .i64 a3] L (by simp) (by
   rw [List.drop_zero,hLl,← hL]
   unfold Ya
   rw [List.map_take]
   rfl) (by simp;omega) (fun e=>by rw [e] at hLl;simp at hLl;omega) (by omega)
  rw [hLl] at cC
  refine StA.of (cC.mono ?_)
  rintro _ _ ⟨rfl,rfl⟩
  try simp [-Xa]
  have hfz:=Wag (n:=σ.length) (σ:=σ++(G++[AObj.cells [.int .i64 a0,.int .i64 a1,.int .i64 a2,.int .i64 a3],.cells [],.cells (Ya L)])) (r:=σ.length+(G.length+1)+1) (off:=0) (cs:=Ya L) (l:=L) (by omega) (by rw [Qzr (by omega),show σ.length+(G.length+1)+1 - σ.length=G.length+2 by omega,Qzr (by omega),show G.length+2 - G.length=2 by omega];rfl) fun i x hx=>by
   rw [Nat.zero_add];unfold Ya;rw [Qzp,hx];rfl
  rw [hLl] at hfz
  rw [hL]
  exact hfz
end Ab
namespace Ab
open Go Go.RowKit Go.Proofs
def Zbq (t:Tab) (men s:Nat):List Int:=(List.range men).map fun m=>t s m
def Yck (t:Tab) (men:Nat):Nat→Za
 | 0=>[]
 | s+1=>Yck t men s++[.cells [],.cells (Ya (Zbq t men s))]
def Uck (L men:Nat):Nat→List AV
 | 0=>[]
 | s+1=>Uck L men s++[.arr 1 (L+2+2*s+1) 0 men]
theorem Uhq {n:Nat} {S:Za} {r:Nat} {cs:List AV} {R:List (List Int)} (hn:n≤r) (hr:S[r]? = some (.cells cs)) (h:∀ (k:Nat) (l:List Int),R[k]? = some l→∃ v,cs[k]? = some v∧Fz n S v (.pl 1 (Ya l))):Fz n S (.arr 1 r 0 R.length) (Uj R):=by
 have e:R.length=(R.map fun x=>AV.pl 1 (Ya x)).length:=by simp
 unfold Uj
 rw [e]
 refine .arr 1 _ 0 cs _ (fun i _=>(cs[i]?).getD .any) hn hr (fun i x hx=>?_) fun i x hx j y hy=>?_
 ·rw [Qzp,Qzm] at hx
  obtain ⟨l,hl,rfl⟩:=hx
  obtain ⟨v,hv,hz⟩:=h i l hl
  refine ⟨rfl,fun j y hy=>?_⟩
  cases j with
  | zero =>
   simp [AV.cells] at hy
   subst hy
   exact ⟨rfl,by rw [show (0+i)*1+0=i by omega,hv];rfl⟩
  | succ j=>simp [AV.cells] at hy
 ·rw [Qzp,Qzm] at hx
  obtain ⟨l,hl,rfl⟩:=hx
  obtain ⟨v,hv,hz⟩:=h i l hl
  cases j with
  | zero =>
   simp [AV.cells] at hy
   subst hy
   rw [hv]
   exact hz
  | succ j=>simp [AV.cells] at hy
theorem Wbh {n:Nat} {S:Za} {r:Nat} {l:List Int} (hn:n≤r) (hr:S[r]? = some (.cells (Ya l))):Fz n S (.arr 1 r 0 l.length) (.pl 1 (Ya l)):=Wag hn hr fun i x hx=>by
 unfold Ya
 rw [Nat.zero_add,Qzp,hx]
 rfl
def LiA (t:Tab) (σ:Za) (men slots:Nat) (env:Env) (σ':Za):Prop:=∃ (u:List AV) (i:Nat),env={ t:=u }∧u.length=26∧tg u 1=.int .i64 men∧tg u 3=.ptr σ.length 0∧tg u 7=.arr 1 (σ.length+1) 0 slots∧tg u 12=.int .i64 slots∧tg u 13=.int .i64 i∧i≤slots∧σ'=σ++(.cells (Xaj t)::.cells (Uck σ.length men i++List.replicate (slots - i) .nils)::Yck t men i)
attribute [local irreducible] aws awp aw1 Og Om Oc Oa Ogd Ov Ot awd Ua awh Xb Ogh Ohd awl Ogl Ohl awv Ogv Ohv Wb Vb QFn Zc Vg QRo QBe Yf Yg ACode AYield
end Ab
namespace Ab
open Go Go.RowKit Go.Proofs
def Uh7 (t:Tab):List Int:=(List.range 40).map fun k=>t (k / 5) (k % 5)
theorem Ya4 (n:Nat) (S:Za) (l:List Int):Fz n S (.pl 1 (Ya l)) (.pl 1 (Ya l)):=by
 refine .pl 1 _ fun i x hx j y hy=>?_
 obtain ⟨z,_,rfl⟩:=List.mem_map.1 (Qzg hx)
 have:=Qzg hy
 simp [AV.cells] at this
 subst this
 exact .int _ _
theorem Wdr (n:Nat) (S:Za) (R:List (List Int)):Fz n S (Uj R) (Uj R):=by
 refine .pl 1 _ fun i x hx j y hy=>?_
 obtain ⟨z,_,rfl⟩:=List.mem_map.1 (Qzg hx)
 have:=Qzg hy
 simp [AV.cells] at this
 subst this
 exact Ya4 _ _ _
theorem Xbd {n:Nat} {σ:Za} {a b a' b':AV} (h1:Fz n σ a a') (h2:Fz n σ b b'):Fz n σ (.tup [a,b]) (.tup [a',b']):=by simp [h1,h2]
def PlA (r:Rl) (S:List (List Int)) (slots:Nat) (σ:Za) (env:Env) (σ':Za):Prop:=∃ (u:List AV) (i:Nat) (t:Tab),env={ t:=u }∧u.length=42∧tg u 2=.ptr σ.length 0∧tg u 5=.int .i64 slots∧tg u 6=.ptr (σ.length+1) 0∧tg u 15=.pl 1 (S.map fun x=>.pl 1 (Ya x))∧tg u 16=.int .i64 S.length∧tg u 17=.int .i64 i∧i≤S.length∧SlInv slots (shP (S.take i)) t∧σ'=σ++[.cells [.int .i64 r.men,.pl 2 (r.ntcs.map Ub)],.cells (Xaj t)]
def PlB (r:Rl) (S:List (List Int)) (slots:Nat) (σ:Za) (i:Nat) (l:List Int) (env:Env) (σ':Za):Prop:=∃ (u:List AV) (j:Nat) (t:Tab),env={ t:=u }∧u.length=42∧tg u 2=.ptr σ.length 0∧tg u 5=.int .i64 slots∧tg u 6=.ptr (σ.length+1) 0∧tg u 7=.int .i64 i∧tg u 15=.pl 1 (S.map fun x=>.pl 1 (Ya x))∧tg u 16=.int .i64 S.length∧tg u 17=.int .i64 i∧tg u 22=.pl 1 (Ya l)∧tg u 23=.int .i64 l.length∧tg u 24=.int .i64 j∧j≤l.length∧SlInv slots (shP (S.take i)++Ui i (l.take j)) t∧σ'=σ++[.cells [.int .i64 r.men,.pl 2 (r.ntcs.map Ub)],.cells (Xaj t)]
attribute [local irreducible] aws awp aw1 Og Om Oc Oa Ogd Ov Ot awd Ua awh Xb Ogh Ohd awl Ogl Ohl awv Ogv Ohv Wb Vb QFn Zc Vg QRo QBe Yf Yg ACode AYield
end Ab

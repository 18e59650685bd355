/-
  Texts packed for a claim.
-/
import Derived.Test.YtcoikmapjepdjaaGreatDoorE00
import Derived.Test.YtcoikmapjepdjaaGreatDoorE18
import Derived.Test.YtcoikmapjepdjaaGreatDoorE23
import Derived.Test.YtcoikmapjepdjaaGreatDoorE29
import Derived.Test.YtcoikmapjepdjaaGreatDoorE39
set_option linter.all false
namespace Ab
open Go Go.RowKit Go.Proofs
attribute [local irreducible] aws awp aw1 Og Om Oc Oa Ogd Ov Ot awd Ua awh Xb Ogh Ohd awl Ogl Ohl awv Ogv Ohv Wb Vb QFn Zc Vg QRo QBe Yf Yg ACode AYield
theorem Vfi (b:Bx) (h:b.Ok) (σ:Za) (q:Nat) (hq:σ[q]? = some (.cells (Xc b))) (cs:List Int) (hc:ChF b.rs cs) (p:Nat) (hp:σ[p]? = some (.cells (Ya cs))) :
  ACalls Tryz.prog 81 [.ptr q 0,.arr 1 p 0 cs.length] σ fun v s=>v=.agg (Ya (b.fees cs))∧s=σ:=by
 refine ACalls.forgetT ?_
 refine Yb Tryz.func81 rfl (Zb Tryz.func81 (by decide) rfl) ?_
 have hql:=(Qzs.1 hq).1
 have hqX:∀ X:Za,(σ++X)[q]? = some (.cells (Xc b)):=fun X=>by rw [Qzl hql];exact hq
 have hpX:∀ X:Za,(σ++X)[p]? = some (.cells (Ya cs)):=fun X=>by rw [Qzl (Qzs.1 hp).1];exact hp
 have hcl:=hc.len
 have hrl:b.rs.length=b.rounds.length:=by simp [Bx.rs]
 have hfew:=h.few
 have hil:(Ya cs).length=cs.length:=by simp [Ya]
 have hfl:(Ya (Zl b)).length=b.rounds.length:=by simp [Ya,Zl]
 simp [Tryz.ntmps81]
 refine Wd (fun env σ'=>∃ (u:List AV) (i:Nat) (f:List Int),env={ t:=u }∧u.length=29∧tg u 0=.ptr q 0∧tg u 4=.ptr σ.length 0∧tg u 5=.ptr (σ.length+1) 0∧tg u 8=.arr 1 p 0 cs.length∧tg u 9=.int .i64 cs.length∧tg u 10=.int .i64 i∧i≤cs.length∧f=Vi (b.rs.take i) (cs.take i) [0,0,0,0]∧FeeB i f∧σ'=σ++[.cells [.int .i64 0,.int .i64 0,.int .i64 0,.int .i64 0],.cells (Ya f)])
  (fun env _=>match tg env.t 10 with | .int _ i=>cs.length - i.toNat | _=>0) ⟨_,0,[0,0,0,0],rfl,by simp,by simp,by simp,by simp,by simp,by simp [hil],by simp,by omega,by simp [Vi],⟨rfl,fun x hx=>by simp at hx;omega⟩,by simp [Ya]⟩ ?_
 rintro env _ ⟨u,i,f,rfl,hl0,g0,g4,g5,g8,g9,g10,hi,hf,hfb,rfl⟩
 match f,hfb with
 | [a0,a1,a2,a3],hfb =>
  have e0:Ya [a0,a1,a2,a3]=[.int .i64 a0,.int .i64 a1,.int .i64 a2,.int .i64 a3]:=rfl
  rcases Qzn i cs.length with hlt | hge
  ·have hlt':(i:Int)<(cs.length:Int):=by omega
   have hw:=w64 (n:=(i:Int)+1) (by omega) (by omega)
   have hi2:i<b.rounds.length:=by omega
   obtain ⟨r,hr⟩:∃ r,b.rounds[i]=r:=⟨_,rfl⟩
   have ok:r.Ok b.criers:=hr▸h.each _ (List.getElem_mem hi2)
   obtain ⟨_,f3,f4⟩:=Bx.fee_le h ok
   have hri:b.rs[i]? = some (b.fee r,r.may):=by simp [Bx.rs,Qze hi2,hr]
   obtain ⟨c,hce⟩:∃ c,cs[i]=c:=⟨_,rfl⟩
   have hc?:cs[i]? = some c:=by rw [Qze hlt,hce]
   have hcm:=hc.get i _ c hri hc?
   have hcb:=ok.mem c hcm
   have hc4:=h.c4
   have hfb2:=hfb.add h ok hcm
   have hsn:Vi (b.rs.take (i+1)) (cs.take (i+1)) [0,0,0,0]=Zd [a0,a1,a2,a3] c (b.fee r):=by
    rw [Qzt (by omega),Qzt hlt,Za5 _ _ _ _ _ (by simp;omega),← hf,hce]
    have:=(Qzs.1 hri).2
    rw [this]
   have hxx:(Ya cs)[i]'(by omega)=.int .i64 c:=by simp [Ya,hce]
   have hfx:(Ya (Zl b))[i]'(by omega)=.int .i64 (b.fee r):=by simp [Ya,Zl,hr]
   have hiI:(i:Int)<(b.rounds.length:Int):=by omega
   obtain ⟨m,rfl⟩:∃ m:Nat,c=m:=⟨c.toNat,by omega⟩
   have hm:m=0∨m=1∨m=2∨m=3:=by omega
   have b0:=hfb.2 a0 (by simp)
   have b1:=hfb.2 a1 (by simp)
   have b2:=hfb.2 a2 (by simp)
   have b3:=hfb.2 a3 (by simp)
   have x0:=w64 (n:=a0+b.fee r) (by omega) (by omega)
   have x1:=w64 (n:=a1+b.fee r) (by omega) (by omega)
   have x2:=w64 (n:=a2+b.fee r) (by omega) (by omega)
   have x3:=w64 (n:=a3+b.fee r) (by omega) (by omega)
   have hle1:i+1≤cs.length:=hlt
   simp [hl0,g0,g4,g5,g8,g9,g10,hlt,hlt',hil,hxx,e0,hpX,hle1]
   refine Xp [12] [] mixed (by kernel_rfl) (by kernel_rfl) ?_
   simp [hl0,g0,g4,g5,g8,g9,g10,hqX,hpX,Xc,hiI,hi2,hfl,hfx]
   rcases hm with rfl | rfl | rfl | rfl
   ·simp [hl0,g0,g4,g5,g8,g9,g10,hqX,hpX,Xc,hiI,hi2,hfl,hfx,x0,hw]
    exact ⟨⟨i+1,by simp,hlt,by rw [hsn];exact hfb2,by rw [hsn];rfl⟩,by omega⟩
   ·simp [hl0,g0,g4,g5,g8,g9,g10,hqX,hpX,Xc,hiI,hi2,hfl,hfx,x1,hw]
    exact ⟨⟨i+1,by simp,hlt,by rw [hsn];exact hfb2,by rw [hsn];rfl⟩,by omega⟩
   ·simp [hl0,g0,g4,g5,g8,g9,g10,hqX,hpX,Xc,hiI,hi2,hfl,hfx,x2,hw]
    exact ⟨⟨i+1,by simp,hlt,by rw [hsn];exact hfb2,by rw [hsn];rfl⟩,by omega⟩
   ·simp [hl0,g0,g4,g5,g8,g9,g10,hqX,hpX,Xc,hiI,hi2,hfl,hfx,x3,hw]
    exact ⟨⟨i+1,by simp,hlt,by rw [hsn];exact hfb2,by rw [hsn];rfl⟩,by omega⟩
  ·obtain rfl:i=cs.length:=by omega
   rw [List.take_length,hcl,List.take_length] at hf
   simp [hl0,g0,g4,g5,g8,g9,g10,e0]
   refine ⟨σ,_,rfl,rfl,fun r o h=>.inl h,_,Ub0 _ _ _ _,?_,rfl⟩
   unfold Bx.fees
   rw [← hf]
   rfl
def mvV:List (List Nat):=[[],[5],[6],[5,6],[6,5],[5,6,7],[6,5,7],[5,6,7,8],[6,5,7,8]]
def mvR (q p n N:Nat) (f:List Int) (s:List Nat):Nat→AV
 | 0=>.ptr q 0
 | 1=>.fn (.func 158) [.ptr q 0] []
 | 2=>.ptr q 0
 | 3=>.arr 1 p 0 n
 | 4=>.agg (Ya f)
 | 5=>.ptr (N+(2+s.idxOf 5)) 0
 | 6=>.ptr (N+(2+s.idxOf 6)) 0
 | _=>.any
def mvO (q:Nat) (f:List Int) (s:List Nat):Nat→AObj
 | 5=>.cells [if 7∈s then .fn (.func 158) [.ptr q 0] [] else .nilf]
 | 6=>.cells (if 8∈s then Ya f else [.int .i64 0,.int .i64 0,.int .i64 0,.int .i64 0])
 | _=>.dead
def mvS (q p n:Nat) (f:List Int) (σ:Za) (s:List Nat):Za:=σ++(.cells [.ptr q 0]::.cells [.arr 1 p 0 n]::(s.filter fun x=>decide (x<7)).map (mvO q f s))
set_option maxRecDepth 20000 in
set_option maxHeartbeats 8000000 in
theorem Uhk (b:Bx) (h:b.Ok) (σ:Za) (q:Nat) (hq:σ[q]? = some (.cells (Xc b))) (cs:List Int) (hc:ChF b.rs cs) (p:Nat) (hp:σ[p]? = some (.cells (Ya cs))) :
  ACalls Tryz.prog 78 [.ptr q 0,.arr 1 p 0 cs.length] σ fun v s=>∃ a c x y,v=.fn (.func 159) [] [.ptr (σ.length+1) 0,.ptr σ.length 0,.ptr a 0,.ptr c 0]∧s=σ++[.cells [.ptr q 0],.cells [.arr 1 p 0 cs.length],x,y]∧s[a]? = some (.cells [.fn (.func 158) [.ptr q 0] []])∧s[c]? = some (.cells (Ya (b.fees cs))):=by
 refine Yb Tryz.func78 rfl (Zb Tryz.func78 (by decide) rfl) ?_
 have hql:=(Qzs.1 hq).1
 have hpl:=(Qzs.1 hp).1
 have hqX:∀ X:Za,(σ++X)[q]? = some (.cells (Xc b)):=fun X=>by rw [Qzl hql];exact hq
 have hpX:∀ X:Za,(σ++X)[p]? = some (.cells (Ya cs)):=fun X=>by rw [Qzl hpl];exact hp
 have hfees:∀ X:Za,ACalls Tryz.prog 81 [.ptr q 0,.arr 1 p 0 cs.length] (σ++X) fun v s=>v=.agg (Ya (b.fees cs))∧s=σ++X:=fun X=>Vfi b h (σ++X) q (hqX X) cs hc p (hpX X)
 obtain ⟨f,hf⟩:∃ f,b.fees cs=f:=⟨_,rfl⟩
 rw [hf] at hfees ⊢
 obtain ⟨y0,y1,y2,y3,hfe⟩:∃ y0 y1 y2 y3,f=[y0,y1,y2,y3]:=by
  have h4:f.length=4:=by rw [← hf];exact Yaj _ _ _
  match f,h4 with
  | [a,b,c,d],_=>exact ⟨a,b,c,d,rfl⟩
 have i1:List.idxOf 5 [6,5]=1:=rfl
 have i2:List.idxOf 5 [5,6]=0:=rfl
 have i3:List.idxOf 6 [5,6]=1:=rfl
 have i4:List.idxOf 6 [6,5]=0:=rfl
 have i5:List.idxOf 5 [6,5,7]=1:=rfl
 have i6:List.idxOf 5 [5,6,7]=0:=rfl
 have i7:List.idxOf 6 [5,6,7]=1:=rfl
 have i8:List.idxOf 6 [6,5,7]=0:=rfl
 have i9:List.idxOf 5 [6,5,7,8]=1:=rfl
 have i10:List.idxOf 5 [5,6,7,8]=0:=rfl
 have i11:List.idxOf 6 [5,6,7,8]=1:=rfl
 have i12:List.idxOf 6 [6,5,7,8]=0:=rfl
 have i13:List.idxOf 5 [5]=0:=rfl
 have i14:List.idxOf 6 [6]=0:=rfl
 simp [Tryz.ntmps78]
 refine Vbo mixed [5,6,7,8] (fun s=>s∈mvV) (mvR q p cs.length σ.length f) (mvS q p cs.length f σ) (by kernel_rfl) (by decide) ⟨by decide,by simp [mvS],?_,?_,?_⟩ ?_
 ·intro i o s ho hi hs hb ha
  have hi9:i<9:=(Qzs.1 ho).1
  refine .inl ?_
  have h:i=0∨i=1∨i=2∨i=3∨i=4:=by simp at hi;omega
  rcases h with rfl | rfl | rfl | rfl | rfl
  ·simp only [List.getElem?_cons_zero,Option.some.injEq] at ho
   subst ho
   refine ⟨rfl,.inr ?_⟩
   simp [Va,mvS,mvR]
  ·simp at ho
   subst ho
   refine ⟨rfl,.inr ?_⟩
   simp [Va,mvS,mvR,tr,Wj,Yj]
  ·simp at ho
   subst ho
   refine ⟨rfl,.inr ?_⟩
   simp [Va,mvS,mvR,tr,Wj,Yj]
  ·simp at ho
   subst ho
   refine ⟨rfl,.inr ?_⟩
   simp [Va,mvS,mvR,tr,Wj,Yj]
  ·simp at ho
   subst ho
   refine ⟨rfl,.inr ?_⟩
   simp [Va,mvS,mvR,tr,Wj,Yj]
   exact StA.of (hfees _)
 ·intro i o s ho hi hs his hb
  simp only [List.mem_cons,List.not_mem_nil,or_false] at hi
  have b5:i=7∨i=8→5∈s:=by
   rintro (rfl | rfl)
   ·exact hb 5 (by decide) (by decide)
   ·exact hb 5 (by decide) (by decide)
  have b6:i=7∨i=8→6∈s:=by
   rintro (rfl | rfl)
   ·exact hb 6 (by decide) (by decide)
   ·exact hb 6 (by decide) (by decide)
  have b7:i=8→7∈s:=by
   rintro rfl
   exact hb 7 (by decide) (by decide)
  clear hb
  rcases hi with rfl | rfl | rfl | rfl
  ·simp at ho
   subst ho
   have:s=[]∨s=[6]:=by
    simp [mvV] at hs
    rcases hs with rfl | rfl | rfl | rfl | rfl | rfl | rfl | rfl | rfl<;>simp at his ⊢
   rcases this with rfl | rfl
   ·refine ⟨by decide,.inl ⟨rfl,?_⟩⟩
    simp [Va,mvS,mvR,mvO,tr,Wj,Yj,i1,i2,i3,i4,i5,i6,i7,i8,i9,i10,i11,i12,i13,i14,hfe,Ya]
   ·refine ⟨by decide,.inl ⟨rfl,?_⟩⟩
    simp [Va,mvS,mvR,mvO,tr,Wj,Yj,i1,i2,i3,i4,i5,i6,i7,i8,i9,i10,i11,i12,i13,i14,hfe,Ya]
  ·simp at ho
   subst ho
   have:s=[]∨s=[5]:=by
    simp [mvV] at hs
    rcases hs with rfl | rfl | rfl | rfl | rfl | rfl | rfl | rfl | rfl<;>simp at his ⊢
   rcases this with rfl | rfl
   ·refine ⟨by decide,.inl ⟨rfl,?_⟩⟩
    simp [Va,mvS,mvR,mvO,tr,Wj,Yj,i1,i2,i3,i4,i5,i6,i7,i8,i9,i10,i11,i12,i13,i14,hfe,Ya]
   ·refine ⟨by decide,.inl ⟨rfl,?_⟩⟩
    simp [Va,mvS,mvR,mvO,tr,Wj,Yj,i1,i2,i3,i4,i5,i6,i7,i8,i9,i10,i11,i12,i13,i14,hfe,Ya]
  ·simp at ho
   subst ho
   have c5:=b5 (by decide)
   have c6:=b6 (by decide)
   have:s=[5,6]∨s=[6,5]:=by
    simp [mvV] at hs
    rcases hs with rfl | rfl | rfl | rfl | rfl | rfl | rfl | rfl | rfl<;>simp at his c5 c6 ⊢
   rcases this with rfl | rfl
   ·refine ⟨by decide,.inl ⟨rfl,?_⟩⟩
    simp [Va,mvS,mvR,mvO,tr,Wj,Yj,i1,i2,i3,i4,i5,i6,i7,i8,i9,i10,i11,i12,i13,i14,hfe,Ya]
   ·refine ⟨by decide,.inl ⟨rfl,?_⟩⟩
    simp [Va,mvS,mvR,mvO,tr,Wj,Yj,i1,i2,i3,i4,i5,i6,i7,i8,i9,i10,i11,i12,i13,i14,hfe,Ya]
  ·simp at ho
   subst ho
   have c5:=b5 (by decide)
   have c6:=b6 (by decide)
   have c7:=b7 rfl
   have:s=[5,6,7]∨s=[6,5,7]:=by
    simp [mvV] at hs
    rcases hs with rfl | rfl | rfl | rfl | rfl | rfl | rfl | rfl | rfl<;>simp at his c5 c6 c7 ⊢
   rcases this with rfl | rfl
   ·refine ⟨by decide,.inl ⟨rfl,?_⟩⟩
    simp [Va,mvS,mvR,mvO,tr,Wj,Yj,i1,i2,i3,i4,i5,i6,i7,i8,i9,i10,i11,i12,i13,i14,hfe,Ya]
   ·refine ⟨by decide,.inl ⟨rfl,?_⟩⟩
    simp [Va,mvS,mvR,mvO,tr,Wj,Yj,i1,i2,i3,i4,i5,i6,i7,i8,i9,i10,i11,i12,i13,i14,hfe,Ya]
 ·intro s i j hs hs' hi his hbi hji hb hj
  have ap:∀ k,k∈s→(s++[i]).idxOf k=s.idxOf k:=fun k hk=>by rw [List.idxOf_append,if_pos hk]
  match j,hb,hj with
  | 0,_,_=>rfl
  | 1,_,_=>rfl
  | 2,_,_=>rfl
  | 3,_,_=>rfl
  | 4,_,_=>rfl
  | 5,_,hj=>simp only [mvR];rw [ap 5 (hj (by decide))]
  | 6,_,hj=>simp only [mvR];rw [ap 6 (hj (by decide))]
  | j+7,_,_=>rfl
 ·intro s hs hall
  have:s=[5,6,7,8]∨s=[6,5,7,8]:=by
   have c8:=hall 8 (by decide)
   simp [mvV] at hs
   rcases hs with rfl | rfl | rfl | rfl | rfl | rfl | rfl | rfl | rfl<;>simp at c8 ⊢
  rcases this with rfl | rfl
  ·simp [Va,mvS,mvR,mvO,tr,Wj,Yj,i1,i2,i3,i4,i5,i6,i7,i8,i9,i10,i11,i12,i13,i14,hfe,Ya]
   exact ⟨_,_,⟨rfl,rfl⟩,by simp,by simp⟩
  ·simp [Va,mvS,mvR,mvO,tr,Wj,Yj,i1,i2,i3,i4,i5,i6,i7,i8,i9,i10,i11,i12,i13,i14,hfe,Ya]
   exact ⟨_,_,⟨rfl,rfl⟩,by simp,by simp⟩
end Ab
namespace Ab
open Go Go.RowKit Go.Proofs
def Ubl (b:Bx) (cs:List Int) (i m:Nat):Prop:=∃ (r:Rnd) (c x y:Int),b.rounds[i]? = some r∧cs[i]? = some c∧m<b.criers.toNat∧(m:Int)≠c∧(m:Int)∈r.may∧(b.fees cs)[m]? = some x∧(b.fees cs)[c.toNat]? = some y∧x+b.fee r<y
theorem Ugg {b:Bx} (h:b.Ok) {cs:List Int} (hc:ChF b.rs cs):FeeB cs.length (b.fees cs):=by
 have hcl:=hc.len
 have hrl:b.rs.length=b.rounds.length:=by simp [Bx.rs]
 have key:∀ k,k≤cs.length→FeeB k (Vi (b.rs.take k) (cs.take k) [0,0,0,0]):=by
  intro k
  induction k with
  | zero=>intro _;exact ⟨rfl,fun x hx=>by simp [Vi] at hx;omega⟩
  | succ k ih =>
   intro hk
   have ih:=ih (by omega)
   have hi2:k<b.rounds.length:=by omega
   obtain ⟨r,hr⟩:∃ r,b.rounds[k]=r:=⟨_,rfl⟩
   have ok:r.Ok b.criers:=hr▸h.each _ (List.getElem_mem hi2)
   have hri:b.rs[k]? = some (b.fee r,r.may):=by simp [Bx.rs,Qze hi2,hr]
   have hc?:cs[k]? = some cs[k]:=Qze hk
   have hcm:=hc.get k _ _ hri hc?
   have:=ih.add h ok hcm
   rw [Qzt (by omega),Qzt hk,Za5 _ _ _ _ _ (by simp;omega),(Qzs.1 hri).2]
   exact this
 have:=key cs.length (Nat.le_refl _)
 rw [List.take_length,show b.rs.take cs.length=b.rs by rw [hcl,List.take_length]] at this
 exact this
attribute [local irreducible] aws awp aw1 Og Om Oc Oa Ogd Ov Ot awd Ua awh Xb Ogh Ohd awl Ogl Ohl awv Ogv Ohv Wb Vb QFn Zc Vg QRo QBe Yf Yg ACode AYield
set_option maxHeartbeats 8000000 in
theorem Yfe (b:Bx) (h:b.Ok) (σ:Za) (q:Nat) (hq:σ[q]? = some (.cells (Xc b))) (cs:List Int) (hc:ChF b.rs cs) (p:Nat) (hp:σ[p]? = some (.cells (Ya cs)))
  (ps pd pf pc y:Nat) (hps:σ[ps]? = some (.cells [.arr 1 p 0 cs.length])) (hpd:σ[pd]? = some (.cells [.ptr q 0])) (hpf:σ[pf]? = some (.cells [.fn (.func 158) [.ptr q 0] []])) (hpc:σ[pc]? = some (.cells (Ya (b.fees cs))))
  (Fin:Za→Prop) (hy:∀ i m:Nat,Ubl b cs i m→∃ s,AYield Tryz.prog y [.agg [.int .i64 i,.int .i64 m]] σ (fun v' s'=>v'=.bool false∧s'=s)∧Fin s) :
  AEnter Tryz.prog 159 [.yld y,.ptr ps 0,.ptr pd 0,.ptr pf 0,.ptr pc 0] σ (fun _ σ'=>σ'=σ∨Fin σ'):=by
 refine Veh Tryz.func159 rfl (Zb Tryz.func159 (by decide) rfl) ?_
 have hcl:=hc.len
 have hrl:b.rs.length=b.rounds.length:=by simp [Bx.rs]
 have hfew:=h.few
 have hc4:=h.c4
 have hc1:=h.c1
 have hil:(Ya cs).length=cs.length:=by simp [Ya]
 have hfl:(Ya (Zl b)).length=b.rounds.length:=by simp [Ya,Zl]
 obtain ⟨f,hf⟩:∃ f,b.fees cs=f:=⟨_,rfl⟩
 have hf4:f.length=4:=by rw [← hf];exact Yaj _ _ _
 rw [hf] at hpc
 have hfl4:(Ya f).length=4:=by simp [Ya,hf4]
 simp [Tryz.ntmps159,hps]
 refine Wd (fun env σ'=>∃ (u:List AV) (i:Nat),env={ t:=u }∧u.length=60∧tg u 0=.yld y∧tg u 2=.ptr pd 0∧tg u 3=.ptr pf 0∧tg u 4=.ptr pc 0∧tg u 9=.arr 1 p 0 cs.length∧tg u 10=.int .i64 cs.length∧tg u 11=.int .i64 i∧i≤cs.length∧σ'=σ)
  (fun env _=>match tg env.t 11 with | .int _ i=>cs.length - i.toNat | _=>0) ⟨_,0,rfl,by simp,by simp,by simp,by simp,by simp,by simp,by simp,by simp,by omega,rfl⟩ ?_
 rintro env σ1 ⟨u,i,rfl,hl,g0,g2,g3,g4,g9,g10,g11,hi,hσ⟩
 obtain rfl:=hσ.symm
 rcases Qzn i cs.length with hlt | hge
 ·have hlt':(i:Int)<(cs.length:Int):=by omega
  have hw:=w64 (n:=(i:Int)+1) (by omega) (by omega)
  have hle1:i+1≤cs.length:=hlt
  obtain ⟨c,hce⟩:∃ c,cs[i]=c:=⟨_,rfl⟩
  have hc?:cs[i]? = some c:=by rw [Qze hlt,hce]
  have hi2:i<b.rounds.length:=by omega
  obtain ⟨r,hr⟩:∃ r,b.rounds[i]=r:=⟨_,rfl⟩
  have hr?:b.rounds[i]? = some r:=by rw [Qze hi2,hr]
  have ok:r.Ok b.criers:=hr▸h.each _ (List.getElem_mem hi2)
  have hri:b.rs[i]? = some (b.fee r,r.may):=by simp [Bx.rs,Qze hi2,hr]
  have hcb:=ok.mem c (hc.get i _ c hri hc?)
  have hxx:(Ya cs)[i]'(by omega)=.int .i64 c:=by simp [Ya,hce]
  have hfx:(Ya (Zl b))[i]'(by omega)=.int .i64 (b.fee r):=by simp [Ya,Zl,hr]
  have hiI:(i:Int)<(b.rounds.length:Int):=by omega
  have hqc:(Xc b)[0]? = some (.int .i64 b.criers):=by simp [Xc]
  simp [hl,g0,g2,g3,g4,g9,g10,g11,hlt,hlt',hil,hxx,hp,hle1,hpd,hq,Xc]
  refine Wd (fun env σ'=>∃ (u:List AV) (m:Nat),env={ t:=u }∧u.length=60∧tg u 0=.yld y∧tg u 2=.ptr pd 0∧tg u 3=.ptr pf 0∧tg u 4=.ptr pc 0∧tg u 6=.int .i64 i∧tg u 7=.int .i64 c∧tg u 9=.arr 1 p 0 cs.length∧tg u 10=.int .i64 cs.length∧tg u 11=.int .i64 i∧tg u 20=.int .i64 b.criers∧tg u 21=.int .i64 m∧m≤4∧σ'=σ)
   (fun env _=>match tg env.t 21 with | .int _ i=>4 - i.toNat | _=>0) ⟨_,0,rfl,by simp [hl],by simp [hl,g0],by simp [hl,g2],by simp [hl,g3],by simp [hl,g4],by simp [hl],by simp [hl],by simp [hl,g9],by simp [hl,g10],by simp [hl,g11],by simp [hl],by simp [hl],by omega,rfl⟩ ?_
  clear hl g0 g2 g3 g4 g9 g10 g11
  rintro env σ1 ⟨u,m,rfl,hl,g0,g2,g3,g4,g6,g7,g9,g10,g11,g20,g21,hm,hσ⟩
  obtain rfl:=hσ.symm
  by_cases hmc:(m:Int)<b.criers
  ·have hwm:=w64 (n:=(m:Int)+1) (by omega) (by omega)
   obtain ⟨hfb1,hfb2⟩:=Ugg h hc
   rw [hf] at hfb2
   obtain ⟨x,hx⟩:∃ x,f[m]? = some x:=⟨_,Qze (by omega)⟩
   obtain ⟨z,hz⟩:∃ z,f[c.toNat]? = some z:=⟨_,Qze (by omega)⟩
   have hxb:=hfb2 x (Qzg hx)
   obtain ⟨_,f3,f4⟩:=Bx.fee_le h ok
   have hwx:=w64 (n:=x+b.fee r) (by omega) (by omega)
   have cMay:=Xb5 b σ q hq (m:Int) i r hr? (by omega) (by have:=ok.short h.c4;omega)
   have hm4:m<4:=by omega
   have hmx:(Ya f)[m]'(by omega)=.int .i64 x:=by simp [Ya,(Qzs.1 hx).2]
   obtain ⟨c,rfl⟩:∃ k:Nat,c=k:=⟨c.toNat,by omega⟩
   have hc4':c<4:=by omega
   have hm4I:(m:Int)<4:=by omega
   have hc4I:(c:Int)<4:=by omega
   have hm41:m+1≤4:=by omega
   have hc41:c+1≤4:=by omega
   have hzx:(Ya f)[c]'(by omega)=.int .i64 z:=by
    have:=(Qzs.1 hz).2
    simp [Ya]
    simpa using this
   simp [hl,g0,g2,g3,g4,g6,g7,g9,g10,g11,g20,g21,hmc]
   refine Xp [31] [] mixed (by kernel_rfl) (by kernel_rfl) ?_
   by_cases e1:(m:Int)=(c:Int)
   ·obtain rfl:m=c:=by omega
    simp [hl,g0,g2,g3,g4,g6,g7,g9,g10,g11,g20,g21,hmc,hwm]
    exact ⟨⟨m+1,by omega,by omega⟩,by omega⟩
   ·have e1':¬ m=c:=by omega
    by_cases e2:(m:Int)∈r.may
    ·by_cases e3:x+b.fee r<z
     ·simp [hl,g0,g2,g3,g4,g6,g7,g9,g10,g11,g20,g21,hmc,e1,e1',hpf]
      refine Yay (xs:=[.ptr q 0]) (args:=[.int .i64 m,.int .i64 i]) (ys:=[]) cMay ?_
      simp [hl,g0,g2,g3,g4,g6,g7,g9,g10,g11,g20,g21,hmc,e1,e1',e2,hpf,hpc,hpd,hq,Xc,hm4,hc4',hm4I,hc4I,hm41,hc41,hfl4,hmx,hzx,hiI,hi2,hfl,hfx,hwx,e3]
      obtain ⟨s,hy1,hy2⟩:=hy i m ⟨r,c,x,z,hr?,hc?,by omega,e1,e2,by rw [hf];exact hx,by rw [hf];exact hz,e3⟩
      refine Ufr hy1 ?_
      simp [hl,g0,g2,g3,g4,g6,g7,g9,g10,g11,g20,g21]
      exact .inr hy2
     ·simp [hl,g0,g2,g3,g4,g6,g7,g9,g10,g11,g20,g21,hmc,e1,e1',hpf]
      refine Yay (xs:=[.ptr q 0]) (args:=[.int .i64 m,.int .i64 i]) (ys:=[]) cMay ?_
      simp [hl,g0,g2,g3,g4,g6,g7,g9,g10,g11,g20,g21,hmc,e1,e1',e2,hpf,hpc,hpd,hq,Xc,hm4,hc4',hm4I,hc4I,hm41,hc41,hfl4,hmx,hzx,hiI,hi2,hfl,hfx,hwx,e3,hwm]
      exact ⟨⟨m+1,by omega,by omega⟩,by omega⟩
    ·simp [hl,g0,g2,g3,g4,g6,g7,g9,g10,g11,g20,g21,hmc,e1,e1',hpf]
     refine Yay (xs:=[.ptr q 0]) (args:=[.int .i64 m,.int .i64 i]) (ys:=[]) cMay ?_
     simp [hl,g0,g2,g3,g4,g6,g7,g9,g10,g11,g20,g21,hmc,e1,e1',e2,hpf,hwm]
     exact ⟨⟨m+1,by omega,by omega⟩,by omega⟩
  ·simp [hl,g0,g2,g3,g4,g6,g7,g9,g10,g11,g20,g21,hmc,hw]
   exact ⟨⟨i+1,by omega,by omega⟩,by omega⟩
 ·obtain rfl:i=cs.length:=by omega
  simp [hl,g0,g2,g3,g4,g9,g10,g11]
end Ab

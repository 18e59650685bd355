/-
  Texts packed for a claim.
-/
import Derived.Test.YtcoikmapjepdjaaGreatDoorD00
import Derived.Test.YtcoikmapjepdjaaGreatDoorD35
set_option linter.all false
namespace Ab
open Go Go.RowKit Go.Proofs
def LaA (t:Tab) (W:Za) (L:Nat) (n:Int) (slots s0:Nat) (env:Env) (σ':Za):Prop:=∃ (u:List AV) (a:Nat),env={ t:=u,m:=[L+6] }∧u.length=54∧tg u 3=.int .i64 slots∧tg u 4=.ptr L 0∧tg u 5=.ptr (L+1) 0∧tg u 6=.ptr (L+2) 0∧tg u 9=.int .i64 a∧tg u 10=.ptr (L+8) 0∧a≤s0∧σ'=W++[.dead,.cells [.int .i64 0]]
theorem Ygw {P:Program} {fn:Func} {R:AV→Za→Prop} {env:Env} {σ:Za}:Wp P fn R .ret env σ=Zac P fn R env env.m σ:=rfl
theorem Yhg {P:Program} {fn:Func} {R:AV→Za→Prop} {env:Env} {σ:Za}:Wp P fn R .normal env σ=Zac P fn R env env.m σ:=rfl
attribute [local irreducible] aws awp aw1 Og Om Oc Oa Ogd Ov Ot awd Zb awh Xb Ogh Ohd awl Ogl Ohl awv Ogv Ohv Wb Vb QFn Ub Wp QRo QBe Ul Vn ACode AYield
set_option maxHeartbeats 4000000 in
theorem Ug3 {slots:Nat} {N:List (Nat × Int)} {t:Tab} (h:SlInv slots N t) (σ:Za) (q man:Nat) (n:Int) (hq:σ[q]? = some (.cells (Zd t))) (hs:slots≤8) (hm:man<5) (hn:0≤n) (hnew:(man,n)∉N)
  (hrow:(N.filter fun p=>p.2 == n).length<slots) (hman:(N.filter fun p=>p.1 == man).length<slots) :
  ACalls Tryz.prog 180 [.ptr q 0,.int .i64 man,.int .i64 n,.int .i64 slots] σ fun v s=>∃ t',SlInv slots (N++[(man,n)]) t'∧s=σ.set q (.cells (Zd t')):=by
 have hql:=(Qzs.1 hq).1
 refine ACalls.forgetT ?_
 refine Xes Tryz.func180 rfl (Va Tryz.func180 (by decide) rfl) ?_
 simp [-Xa,Tryz.ntmps180]
 obtain ⟨T,hT⟩:∃ T,σ++[AObj.cells [.ptr q 0],.cells [.int .i64 man],.cells [.int .i64 n]]=T:=⟨_,rfl⟩
 have hTl:T.length=σ.length+3:=by rw [← hT];simp
 rw [hT]
 refine StA.of ((Ub0 T q man slots).mono ?_)
 rintro _ _ ⟨rfl,rfl⟩
 simp [-Xa,hTl]
 refine Wca (gf:=302) (first:=[]) (caps:=[.ptr (σ.length+5) 0,.ptr (σ.length+3) 0,.ptr (σ.length+4) 0]) (σ.length+6) (σ.length+7) (by simp [hTl]) rfl (by simp) fun fn D o σ2 ho hrd hσ2=>?_
 subst hσ2
 have hoL:∀ cs,o≠.cells cs:=fun cs e=>by rw [ho] at e;cases e
 obtain ⟨W,hW⟩:∃ W,T++[AObj.cells [.ptr q 0],.cells [.int .i64 man],.cells [.int .i64 slots],.deferred]=W:=⟨_,rfl⟩
 have hWl:W.length=σ.length+7:=by rw [← hW];simp [hTl]
 have hW0:(T++[AObj.cells [.ptr q 0],.cells [.int .i64 man],.cells [.int .i64 slots]]++[.deferred,o])=W++[o]:=by rw [← hW];simp
 rw [hW0]
 have w0:∀ X:Za,(W++X)[σ.length]? = some (.cells [.ptr q 0]):=fun X=>by rw [← hW,← hT];simp
 have w1:∀ X:Za,(W++X)[σ.length+1]? = some (.cells [.int .i64 man]):=fun X=>by rw [← hW,← hT];simp
 have w2:∀ X:Za,(W++X)[σ.length+2]? = some (.cells [.int .i64 n]):=fun X=>by rw [← hW,← hT];simp
 have w3:∀ X:Za,(W++X)[σ.length+3]? = some (.cells [.ptr q 0]):=fun X=>by rw [← hW,← hT];simp
 have w4:∀ X:Za,(W++X)[σ.length+4]? = some (.cells [.int .i64 man]):=fun X=>by rw [← hW,← hT];simp
 have w5:∀ X:Za,(W++X)[σ.length+5]? = some (.cells [.int .i64 slots]):=fun X=>by rw [← hW,← hT];simp
 have w6:∀ X:Za,(W++X)[σ.length+6]? = some .deferred:=fun X=>by rw [← hW,← hT];simp
 have wq:∀ X:Za,(W++X)[q]? = some (.cells (Zd t)):=fun X=>by rw [← hW,← hT,List.append_assoc,List.append_assoc,Qzl hql];exact hq
 have w7:∀ (x:AObj) (X:Za),(W++x::X)[σ.length+7]? = some x:=fun x X=>by rw [← hWl];simp
 have w7s:∀ (x y:AObj) (X:Za),(W++x::X).set (σ.length+7) y=W++y::X:=fun x y X=>by rw [← hWl];simp
 obtain ⟨G0,hG0⟩:∃ G0:Za,[AObj.cells [.ptr q 0],.cells [.int .i64 man],.cells [.int .i64 n],.cells [.ptr q 0],.cells [.int .i64 man],.cells [.int .i64 slots],.deferred]=G0:=⟨_,rfl⟩
 have hWs:W=σ++G0:=by rw [← hW,← hT,← hG0];simp
 have wqs:∀ (x:AObj) (X:Za),(W++X).set q x=W.set q x++X:=fun x X=>by rw [List.set_append_left _ _ (by omega)]
 have wqe:∀ x:AObj,W.set q x=σ.set q x++G0:=fun x=>by rw [hWs,List.set_append_left _ _ hql]
 have v7:∀ (z x:AObj) (X:Za),(W.set q z++x::X)[σ.length+7]? = some x:=fun z x X=>by rw [← hWl,Qzr (by simp)];simp
 have v7s:∀ (z x y:AObj) (X:Za),(W.set q z++x::X).set (σ.length+7) y=W.set q z++y::X:=fun z x y X=>by rw [← hWl,List.set_append_right _ _ (by simp)];simp
 have hrow':=h.free hn hrow
 have hman':=h.opens hman
 refine AEnter.mono (Wb8 t (σ.length+7) (σ.length+5) (σ.length+3) (σ.length+4) q man slots hm hs (fun k s=>s=W++[o]∧∀ s',s'<k→t s' man=-1→Xz t s' n≠-1)
  (fun s=>∃ s0,s0<slots∧t s0 man=-1∧Xz t s0 n=-1∧s=W.set q (.cells (Zd (Zg t s0 man n)))++[Zau .ret o]) ?_ ?_ ?_ _ ?_) ?_
 ·rintro k s ⟨rfl,_⟩
  exact ⟨w5 _,w3 _,w4 _,wq _⟩
 ·rintro k s ⟨rfl,hk⟩ hks hto
  have hk8:(k:Int)<8:=by omega
  have hm5:(man:Int)<5:=by omega
  have hle:k*5+man+1≤(Zd t).length:=by rw [Zp];omega
  rcases Classical.em (Xz t k n=-1) with hw | hw
  ·refine ⟨false,W.set q (.cells (Zd (Zg t k man n)))++[Zau .ret o],AYield.roundJ ho (w7 _ _) (by simp) fun oB hoB=>?_,?_⟩
   rotate_left
   ·simp
    exact ⟨k,hks,hto,hw,rfl⟩
   ·clear ho
    simp [-Xa,w7,w7s,w0,w1,w2]
    refine StA.of ((Vay t _ q k n (wq _) (by omega)).mono ?_)
    rintro v s ⟨rfl,rfl⟩
    simp [-Xa,hw,w0,w1,w2]
    refine Us [7] [] mixed (by kernel_rfl) (by kernel_rfl) ?_
    simp [-Xa,hw,w0,w1,w2,hk8,hm5,wq,hle]
    rw [Vas t (by omega) hm,wqs]
    exact ⟨v7 _ _ _,v7s _ _ _ _⟩
  ·refine ⟨true,W++[o],AYield.roundJ ho (w7 _ _) (by simp) fun oB hoB=>?_,?_⟩
   ·clear ho
    simp [-Xa,w7,w7s,w0,w1,w2]
    refine StA.of ((Vay t _ q k n (wq _) (by omega)).mono ?_)
    rintro v s ⟨rfl,rfl⟩
    simp [-Xa,hw,w0,w1,w2,w7,w7s]
   ·simp
    intro s' hs' hts
    rcases Qzn s' k with h1 | h1
    ·exact hk s' h1 hts
    ·obtain rfl:s'=k:=by omega
     exact hw
 ·rintro k s ⟨rfl,hk⟩ hks hto
  refine ⟨rfl,fun s' hs' hts=>?_⟩
  rcases Qzn s' k with h1 | h1
  ·exact hk s' h1 hts
  ·obtain rfl:s'=k:=by omega
   exact absurd hts hto
 ·exact ⟨rfl,fun s' hs'=>by omega⟩
 ·rintro _ s (⟨rfl,hno⟩ | ⟨s0,hs0,hto,hw,rfl⟩)
  ·refine .inl ⟨by rw [w7];rw [hrd];trivial,?_⟩
   rw [w7s]
   clear ho
   obtain ⟨s0,hs0,hf0⟩:=hrow'
   obtain ⟨b0,hb0,ho0⟩:=hman'
   simp [-Xa,hWl]
   refine Vd (LaA t W σ.length n slots s0) (fun env _=>match tg env.t 9 with | .int _ i=>slots - i.toNat | _=>0) ⟨_,0,rfl,by simp,by simp,by simp,by simp,by simp,by simp,by simp,by omega,rfl⟩ ?_
   rintro env _ ⟨u,a,rfl,hl,g3,g4,g5,g6,g9,g10,ha,rfl⟩
   simp [-Xa,hl,g3,g4,g5,g6,g9,g10,w0,w1,w2]
   refine StA.of ((Vay t _ q a n (wq _) (by omega)).mono ?_)
   rintro v s ⟨rfl,rfl⟩
   rcases Classical.em (Xz t a n=-1) with hw | hw
   ·simp [-Xa,hl,g3,g4,g5,g6,g9,g10,hw,w0,w1,w2]
    refine StA.of ((Ub0 _ q man slots).mono ?_)
    rintro _ _ ⟨rfl,rfl⟩
    obtain ⟨V,hV⟩:∃ V,W++[AObj.dead]=V:=⟨_,rfl⟩
    have hVl:V.length=σ.length+8:=by rw [← hV];simp [hWl]
    have hV0:∀ X:Za,W++[AObj.dead,.cells [.int .i64 0]]++X=V++.cells [.int .i64 0]::X:=fun X=>by rw [← hV];simp
    rw [hV0]
    have hl2:(W++[AObj.dead,.cells [.int .i64 0]]).length=σ.length+9:=by simp [hWl]
    rw [hl2]
    simp [-Xa,hl,g3,g4,g5,g6,g9,g10]
    refine Wca (gf:=302) (first:=[]) (caps:=[.ptr (σ.length+11) 0,.ptr (σ.length+9) 0,.ptr (σ.length+10) 0]) (σ.length+12) (σ.length+13) (by simp [hVl]) rfl (by simp [hl]) fun fn2 D2 o2 σ2 ho2 hrd2 hσ2=>?_
    subst hσ2
    obtain ⟨K,hK⟩:∃ K:Za,[AObj.cells [.ptr q 0],.cells [.int .i64 man],.cells [.int .i64 slots],.deferred]=K:=⟨_,rfl⟩
    have hH0:V++[AObj.cells [.int .i64 0],.cells [.ptr q 0],.cells [.int .i64 man],.cells [.int .i64 slots]]++[.deferred,o2]=V++.cells [.int .i64 (0:Nat)]::(K++[o2]):=by rw [← hK];simp
    rw [hH0]
    have e8:∀ X:Za,V++X=W++(.dead::X):=fun X=>by rw [← hV];simp
    have x0:∀ X:Za,(V++X)[σ.length]? = some (.cells [.ptr q 0]):=fun X=>by rw [e8];exact w0 _
    have x1:∀ X:Za,(V++X)[σ.length+1]? = some (.cells [.int .i64 man]):=fun X=>by rw [e8];exact w1 _
    have x2:∀ X:Za,(V++X)[σ.length+2]? = some (.cells [.int .i64 n]):=fun X=>by rw [e8];exact w2 _
    have xq:∀ X:Za,(V++X)[q]? = some (.cells (Zd t)):=fun X=>by rw [e8];exact wq _
    have x8:∀ (y:AObj) (X:Za),(V++y::X)[σ.length+8]? = some y:=fun y X=>by rw [← hVl];simp
    have x8s:∀ (y z:AObj) (X:Za),(V++y::X).set (σ.length+8) z=V++z::X:=fun y z X=>by rw [← hVl];simp
    have x9:∀ (y:AObj) (X:Za),(V++y::(K++X))[σ.length+9]? = some (.cells [.ptr q 0]):=fun y X=>by rw [show σ.length+9=V.length+1 by omega,← hK];simp
    have x10:∀ (y:AObj) (X:Za),(V++y::(K++X))[σ.length+10]? = some (.cells [.int .i64 man]):=fun y X=>by rw [show σ.length+10=V.length+2 by omega,← hK];simp
    have x11:∀ (y:AObj) (X:Za),(V++y::(K++X))[σ.length+11]? = some (.cells [.int .i64 slots]):=fun y X=>by rw [show σ.length+11=V.length+3 by omega,← hK];simp
    have x13:∀ (y z:AObj) (X:Za),(V++y::(K++z::X))[σ.length+13]? = some z:=fun y z X=>by rw [show σ.length+13=V.length+5 by omega,← hK];simp
    have x13s:∀ (y z w:AObj) (X:Za),(V++y::(K++z::X)).set (σ.length+13) w=V++y::(K++w::X):=fun y z w X=>by rw [show σ.length+13=V.length+5 by omega,← hK];simp
    refine AEnter.mono (Wb8 t (σ.length+13) (σ.length+11) (σ.length+9) (σ.length+10) q man slots hm hs (fun k s=>∃ b:Nat,s=V++.cells [.int .i64 b]::(K++[o2])∧(((∀ s',s'<k→t s' man≠-1)∧b=0)∨(b<k∧t b man=-1))) (fun _=>False) ?_ ?_ ?_ _ ?_) ?_
    ·rintro k s ⟨b,rfl,_⟩
     exact ⟨x11 _ _,x9 _ _,x10 _ _,xq _⟩
    ·rintro k s ⟨b,rfl,hk⟩ hks hto
     refine ⟨true,V++.cells [.int .i64 k]::(K++[o2]),AYield.roundJ ho2 (x13 _ _ _) (by simp) fun oB hoB=>?_,?_⟩
     ·clear ho2
      simp [-Xa,x13,x13s,hl,g3,g4,g5,g6,g9,g10,x8,x8s]
     ·simp
      exact ⟨k,rfl,.inr ⟨by omega,hto⟩⟩
    ·rintro k s ⟨b,rfl,hk⟩ hks hto
     refine ⟨b,rfl,?_⟩
     rcases hk with ⟨h1,h2⟩ | ⟨h1,h2⟩
     ·refine .inl ⟨fun s' hs'=>?_,h2⟩
      rcases Qzn s' k with h3 | h3
      ·exact h1 s' h3
      ·obtain rfl:s'=k:=by omega
       exact hto
     ·exact .inr ⟨by omega,h2⟩
    ·exact ⟨0,rfl,.inl ⟨fun s' hs'=>by omega,rfl⟩⟩
    ·rintro _ s (⟨b,rfl,hk⟩ | hF)
     ·have hbs:b<slots∧t b man=-1:=by
       rcases hk with ⟨h1,_⟩ | h1
       ·exact absurd ho0 (h1 b0 hb0)
       ·exact h1
      have hab:a≠b:=fun e=>hno a (by omega) (e▸hbs.2) hw
      refine .inl ⟨by rw [x13];rw [hrd2];trivial,?_⟩
      rw [x13s]
      clear ho2
      simp [-Xa,hl,g3,g4,g5,g6,g9,g10,x0,x1,x2,x8]
      refine StA.of ((Wdi h _ q a b man (xq _) (by omega) (by omega) hm hbs.2 hab).mono ?_)
      rintro v s ⟨C,E,cur,hC,hend,rfl⟩
      rw [Xhj hab hC hbs.2 hend]
      have hfin:=h.lay2 (by omega) hbs.1 hm hn hC hbs.2 hend (fun m' e=>by
       rcases Qzn m' 5 with h5 | h5
       ·exact Uba hw m' h5 e
       ·have:=h.col (s:=a) h5;omega) hnew
      obtain ⟨t2,ht2⟩:∃ t2,swT t a b (chC C cur)=t2:=⟨_,rfl⟩
      rw [ht2] at hfin ⊢
      have hqV:q<V.length:=by omega
      have hVs:V=σ++(G0++[.dead]):=by rw [← hV,hWs];simp
      have yqs:∀ (x:AObj) (X:Za),(V++X).set q x=V.set q x++X:=fun x X=>by rw [List.set_append_left _ _ hqV]
      have yqss:∀ (x y:AObj) (X:Za),(V.set q x++X).set q y=V.set q y++X:=fun x y X=>by rw [List.set_append_left _ _ (by simpa using hqV),List.set_set]
      have yqe:∀ x:AObj,V.set q x=σ.set q x++(G0++[.dead]):=fun x=>by rw [hVs,List.set_append_left _ _ hql]
      have yq:∀ (x:AObj) (X:Za),(V.set q x++X)[q]? = some x:=fun x X=>by rw [Qzl (by simpa using hqV)];simp [hqV]
      have yo:∀ (r:Nat) (x:AObj) (X:Za),q≠r→r<V.length→(V.set q x++X)[r]? = (V++X)[r]?:=fun r x X h1 h2=>by
       rw [Qzl (by simpa using h2),Qzl h2,List.getElem?_set_ne h1]
      have y0:∀ (x:AObj) (X:Za),(V.set q x++X)[σ.length]? = some (.cells [.ptr q 0]):=fun x X=>by rw [yo _ _ _ (by omega) (by omega)];exact x0 _
      have y1:∀ (x:AObj) (X:Za),(V.set q x++X)[σ.length+1]? = some (.cells [.int .i64 man]):=fun x X=>by rw [yo _ _ _ (by omega) (by omega)];exact x1 _
      have y2:∀ (x:AObj) (X:Za),(V.set q x++X)[σ.length+2]? = some (.cells [.int .i64 n]):=fun x X=>by rw [yo _ _ _ (by omega) (by omega)];exact x2 _
      have ha8:(a:Int)<8:=by omega
      have hm5:(man:Int)<5:=by omega
      have hle:a*5+man+1≤(Zd t2).length:=by rw [Zp];omega
      rw [yqs]
      simp [-Xa,hl,g3,g4,g5,g6,g9,g10]
      refine Us [7] [] mixed (by kernel_rfl) (by kernel_rfl) ?_
      simp [-Xa,hl,g3,g4,g5,g6,g9,g10,y0,y1,y2,yq,yqss,ha8,hm5,hle]
      rw [Vas t2 (by omega) hm,yqe]
      subst hG0
      subst hK
      simp [-Xa,Yhg,Zac]
      exact ⟨_,_,rfl,by simp,Ybe,⟨.tup [],by simp⟩,_,hfin,rfl⟩
     ·exact hF.elim
   ·have hx:=w64 (n:=(a:Int)+1) (by omega) (by omega)
    have hne:a≠s0:=fun e=>by
     subst e
     rcases Zcc t a n with h1 | ⟨m,_,_,h1⟩
     ·exact hw h1
     ·exact hf0 m h1
    simp [-Xa,hl,g3,g4,g5,g6,g9,g10,hw,w0,w1,w2,hx]
    exact ⟨⟨_,a+1,rfl,by simp [hl],by simp [hl,g3],by simp [hl,g4],by simp [hl,g5],by simp [hl,g6],by simp [hl],by simp [hl,g10],by omega,rfl⟩,by omega⟩
  ·refine .inr (.inl ⟨?_,?_⟩)
   ·rw [v7]
    exact Wdy _ hrd
   ·have hget:∀ m',t s0 m'≠n:=fun m' e=>by
     rcases Qzn m' 5 with h5 | h5
     ·exact Uba hw m' h5 e
     ·have:=h.col (s:=s0) h5;omega
    rw [v7s,wqe]
    subst hG0
    simp [-Xa,Ygw,Zac]
    exact ⟨_,_,rfl,by simp,Ybe,⟨.tup [],by simp⟩,_,h.add hs0 hm hn hto hget hnew,rfl⟩
end Ab
namespace Ab
open Go Go.RowKit Go.Proofs
def Zm (men:Nat) (N:List (Nat × Int)):List Int:=(List.range men).map fun m=>((N.filter fun p=>p.1 == m).length:Int)
theorem Uec (men:Nat) (S:List (List Int)):Zm men (shP S)=Wt men S:=rfl
theorem Wa3 (men:Nat) (N:List (Nat × Int)):(Zm men N).length=men:=by simp [Zm]
theorem Zfb (men:Nat) (N:List (Nat × Int)) (m:Nat) (n:Int) (hm:m<men):(Zm men N).set m ((Zm men N)[m]'(by rw [Wa3];exact hm)+1)=Zm men (N++[(m,n)]):=by
 apply List.ext_getElem?
 intro k
 rw [List.getElem?_set]
 unfold Zm
 by_cases hk:m=k
 ·subst hk
  simp [hm]
 ·rw [if_neg hk,Qzp,Qzp]
  rcases Qzn k men with h | h
  ·rw [List.getElem?_range h]
   simp [List.filter_append,hk]
  ·rw [List.getElem?_eq_none (by simpa using h)]
   rfl
theorem Vbs {S:List (List Int)} {i:Nat} {l:List Int} (h:S[i]? = some l):shP (S.take (i+1))=shP (S.take i)++Wi i l:=by
 obtain ⟨hi,e⟩:=Qzs.1 h
 rw [Qzt hi,e,Vcj]
 simp
 rw [Nat.min_eq_left (by omega)]
theorem Vci {i j:Nat} {l:List Int} {m:Int} (h:l[j]? = some m):Wi i (l.take (j+1))=Wi i (l.take j)++[(m.toNat,(i:Int))]:=by
 obtain ⟨hj,e⟩:=Qzs.1 h
 rw [Qzt hj,e,Wgh]
theorem Wew (l:List Int) (x:Int):grt (l++[x])=if grt l<x then x else grt l:=by unfold grt;rw [List.foldl_append];rfl
def LdA (r:Rl) (S:List (List Int)) (men:Nat) (σ:Za) (env:Env) (σ':Za):Prop:=∃ (u:List AV) (i:Nat),env={ t:=u }∧u.length=34∧tg u 5=.arr 1 (σ.length+1) 0 men∧tg u 13=.pl 1 (S.map fun x=>.pl 1 (Ya x))∧tg u 14=.int .i64 S.length∧tg u 15=.int .i64 i∧i≤S.length∧σ'=σ++[.cells [.int .i64 men,.pl 2 (r.ntcs.map Xc)],.cells (Ya (Zm men (shP (S.take i))))]
def LdB (r:Rl) (S:List (List Int)) (men:Nat) (σ:Za) (i:Nat) (l:List Int) (env:Env) (σ':Za):Prop:=∃ (u:List AV) (j:Nat),env={ t:=u }∧u.length=34∧tg u 5=.arr 1 (σ.length+1) 0 men∧tg u 13=.pl 1 (S.map fun x=>.pl 1 (Ya x))∧tg u 14=.int .i64 S.length∧tg u 15=.int .i64 i∧tg u 19=.pl 1 (Ya l)∧tg u 20=.int .i64 l.length∧tg u 21=.int .i64 j∧j≤l.length∧σ'=σ++[.cells [.int .i64 men,.pl 2 (r.ntcs.map Xc)],.cells (Ya (Zm men (shP (S.take i)++Wi i (l.take j))))]
attribute [local irreducible] aws awp aw1 Og Om Oc Oa Ogd Ov Ot awd Zb awh Xb Ogh Ohd awl Ogl Ohl awv Ogv Ohv Wb Vb QFn Ub Wp QRo QBe Ul Vn ACode AYield
theorem Yb5 (l:List Int) (hl:l.length≤2^40):APure Tryz.prog 161 [.pl 1 (Ya l)] (.int .i64 (grt l)):=by
 intro σ
 refine Yb Tryz.func161 rfl (Va Tryz.func161 (by decide) rfl) ?_
 simp [Tryz.ntmps161]
 refine Vd (fun env σ'=>∃ (u:List AV) (i:Nat),env={ t:=u }∧u.length=17∧tg u 3=.int .i64 (grt (l.take i))∧tg u 6=.pl 1 (Ya l)∧tg u 7=.int .i64 l.length∧tg u 8=.int .i64 i∧σ'=σ∧i≤l.length)
  (fun env _=>match tg env.t 8 with | .int _ i=>l.length - i.toNat | _=>0) ⟨_,0,rfl,by simp,by simp [grt],by simp,by simp [Ya],by simp,rfl,by omega⟩ ?_
 rintro env σ' ⟨u,i,rfl,hl0,g3,g6,g7,g8,rfl,hi⟩
 rcases Qzn i l.length with hlt | hge
 ·have hlt':(i:Int)<(l.length:Int):=by omega
  have hw1:=w64 (n:=(i:Int)+1) (by omega) (by omega)
  have hil:i<(Ya l).length:=by simpa [Ya] using hlt
  have hx':(Ya l)[i]=.int .i64 l[i]:=by simp [Ya]
  have hsuc:grt (l.take (i+1))=if grt (l.take i)<l[i] then l[i] else grt (l.take i):=by rw [Qzt hlt,Wew]
  obtain ⟨n,hn⟩:∃ n,grt (l.take i)=n:=⟨_,rfl⟩
  rw [hn] at g3 hsuc
  obtain ⟨x,hx⟩:∃ x,l[i]=x:=⟨_,rfl⟩
  rw [hx] at hx' hsuc
  simp [hl0,g3,g6,g7,g8,hlt',hlt,hil,hx',hw1]
  exact ⟨⟨i+1,by rw [hsuc],by simp,hlt⟩,by omega⟩
 ·have hge':¬ (i:Int)<(l.length:Int):=by omega
  rw [List.take_of_length_le hge] at g3
  simp [hl0,g3,g6,g7,g8,hge']
theorem Vd4 {f:Nat} {w v:AV} {n:Int} {σ:Za} (h:APure Tryz.prog f [w] (.int .i64 n)) (hz:Fz 0 σ v w):ACalls Tryz.prog f [v] σ fun v' s=>v'=.int .i64 n∧s=σ :=
 APure.lend h rfl (fun i x y hx hy=>by
  match i,hx,hy with
  | 0,hx,hy=>simp at hx hy;subst hx;subst hy;exact hz
  | i+1,hx,hy=>simp at hx) fun C C' c hv=>by cases hv;exact .int _ _
theorem Xgf {σ g:Za} {v:AV} {l:List Int} {o:Option Nat} (h:Acc σ g 1 v (Ya l) o):Fz 0 (σ++g) v (.pl 1 (Ya l)):=by
 have hv:=h.val
 cases o with
 | none =>
  obtain ⟨rfl,e⟩:=hv
  rw [e]
  exact .nils_pl 1
 | some jo =>
  obtain ⟨rfl,hjo⟩:=hv
  rw [Zad (fun y hy=>by obtain ⟨z,_,rfl⟩:=List.mem_map.1 hy;rfl)] at hjo
  have hl:(Ya l).length=l.length:=by simp [Ya]
  rw [hl]
  refine Uaq (cs:=Ya l) (Nat.zero_le _) (by rw [Qzr (by omega),Nat.add_sub_cancel_left];exact hjo) fun i x hx=>?_
  unfold Ya
  rw [Nat.zero_add,Qzp,hx]
  rfl
theorem Ua8 {S g:Za} {v:AV} {L:List Int} {o:Option Nat} (hA:Acc S g 1 v (Ya L) o) (x:Int) (hl:L.length≤2^30) :
  ∃ v' g' jo,Xa Tryz.prog #[32,32] v (.arr 1 (S.length+g.length) 0 1) (S++(g++[.cells [.int .i64 x]]))=some (v',S++g')∧Acc S g' 1 v' (Ya (L++[x])) (some jo)∧v'=.arr 1 (S.length+jo) 0 (L.length+1)∧(∀ j,some j≠o→j<g.length→g'[j]? = g[j]?)∧(some jo=o∨g.length≤jo):=by
 obtain ⟨v',g',o',he,hA',hlen,hkeep,ho⟩:=hA.push (P:=Tryz.prog) (t:=32) (e:=3) (ag:=false) (x:=.int .i64 x) (by simp) (by simp) (by simp) (by omega) ⟨by simp [AV.cells],by simp [AV.cells,AV.one]⟩ (by simp [Ya];omega)
 have e:Ya L++[.int .i64 x]=Ya (L++[x]):=by simp [Ya]
 rw [e] at hA'
 obtain ⟨jo,rfl⟩:∃ jo,o'=some jo:=by
  cases o' with
  | none=>exact absurd hA'.val.2 (by simp [Ya])
  | some jo=>exact ⟨jo,rfl⟩
 refine ⟨v',g',jo,by simpa [-Xa] using he,hA',by rw [hA'.val.1];simp [Ya],hkeep,?_⟩
 rcases ho with h | ⟨m,h1,h⟩
 ·exact .inl h
 ·exact .inr (by simp at h;omega)
theorem We3 (r:Rl) (h:r.Ok):APure Tryz.prog 162 [Uh r] (.int .i64 (grt (r.ntcs.map Ntc.times))):=by
 refine APure.of fun σ=>?_
 refine Yb Tryz.func162 rfl (Va Tryz.func162 (by decide) rfl) ?_
 have:=h.few
 simp [-Xa,Tryz.ntmps162,Uh]
 refine Vd (fun env σ'=>∃ (u:List AV) (i:Nat) (v:AV) (g:Za) (o:Option Nat),env={ t:=u }∧u.length=21∧tg u 3=v∧tg u 7=.pl 2 (r.ntcs.map Xc)∧tg u 8=.int .i64 r.ntcs.length∧tg u 9=.int .i64 i∧σ'=σ++g∧i≤r.ntcs.length∧Acc σ g 1 v (Ya ((r.ntcs.take i).map Ntc.times)) o)
  (fun env _=>match tg env.t 9 with | .int _ i=>r.ntcs.length - i.toNat | _=>0) ⟨_,0,.nils,[.cells [.int .i64 r.men,.pl 2 (r.ntcs.map Xc)]],none,rfl,by simp,by simp,by simp,by simp,by simp,rfl,by omega,by simpa [Ya] using Acc.nil _ _ _⟩ ?_
 rintro env σ' ⟨u,i,v,g,o,rfl,hl0,g3,g7,g8,g9,rfl,hi,hA⟩
 rcases Qzn i r.ntcs.length with hlt | hge
 ·have hlt':(i:Int)<(r.ntcs.length:Int):=by omega
  have hw1:=w64 (n:=(i:Int)+1) (by omega) (by omega)
  obtain ⟨n,hn⟩:∃ n,r.ntcs[i]=n:=⟨_,rfl⟩
  have hsuc:(r.ntcs.take (i+1)).map Ntc.times=(r.ntcs.take i).map Ntc.times++[n.times]:=by rw [Qzt hlt,hn];simp
  obtain ⟨v',g',jo,he,hA',hv',_,_⟩:=Ua8 (hA.more [.cells [.int .i64 n.times,.pl 1 (Ya n.men)]]) n.times (by simp;omega)
  simp [-Xa] at he
  rw [← Nat.add_assoc] at he
  rw [← hsuc] at hA'
  simp [-Xa,-List.map_take,hl0,g3,g7,g8,g9,hlt',hlt,hn,Xc,hw1]
  rw [he,Zn]
  exact ⟨⟨i+1,by simp,g',rfl,hlt,_,hA'⟩,by omega⟩
 ·obtain rfl:i=r.ntcs.length:=by omega
  rw [List.take_of_length_le (Nat.le_refl _)] at hA
  simp [-Xa,hl0,g3,g7,g8,g9]
  refine StA.of ((Vd4 (Yb5 _ (by simp;omega)) (Xgf hA)).mono ?_)
  rintro v' s ⟨rfl,rfl⟩
  simp [-Xa,hl0]
theorem Ued (r:Rl) (S:List (List Int)) (h:r.Ok) (hs:ShOk r S):APure Tryz.prog 80 [Uh r,Yf S] (.pl 1 (Ya (Wt r.men.toNat S))):=by
 refine APure.of fun σ=>?_
 refine Yb Tryz.func80 rfl (Va Tryz.func80 (by decide) rfl) ?_
 have:=h.few
 have hm1:=h.m1
 have hm5:=h.m5
 have hlen:=hs.len
 obtain ⟨men,hmen⟩:∃ men:Nat,r.men=men:=⟨r.men.toNat,by omega⟩
 have htn:r.men.toNat=men:=by omega
 rw [htn]
 have hmax:(men:Int)*8≤281474976710656∧(men:Int)≤9223372036854775807:=by omega
 have hzero:List.replicate men (AV.int .i64 0)=Ya (Zm men []):=by
  apply List.ext_getElem?
  intro k
  simp [Ya,Zm]
  rcases Qzn k men with h | h
  ·rw [List.getElem?_replicate,if_pos h,List.getElem?_range h];rfl
  ·rw [List.getElem?_eq_none (by simpa using h),List.getElem?_eq_none (by simpa using h)];rfl
 simp [-Xa,Tryz.ntmps80,Uh,Yf,hmen,hmax,hzero]
 refine Vd (LdA r S men σ) (fun env _=>match tg env.t 15 with | .int _ i=>S.length - i.toNat | _=>0) ⟨_,0,rfl,by simp,by simp,by simp,by simp,by simp,by omega,by simp [shP]⟩ ?_
 rintro env _ ⟨u,i,rfl,hl,g5,g13,g14,g15,hi,rfl⟩
 rcases Qzn i S.length with hlt | hge
 ·have hlt':(i:Int)<(S.length:Int):=by omega
  have hx:=w64 (n:=(i:Int)+1) (by omega) (by omega)
  obtain ⟨l,hli⟩:∃ l,S[i]=l:=⟨_,rfl⟩
  have hl':S[i]? = some l:=by rw [Qze hlt,hli]
  obtain ⟨n,hn,ok,h1,h2,h3⟩:=hs.mem h hl'
  have hll:l.length≤5:=Xav h2 fun x hx=>by have:=h3 x hx;omega
  simp [-Xa,hl,g5,g13,g14,g15,hlt,hlt',hli]
  refine Vd (LdB r S men σ i l) (fun env _=>match tg env.t 21 with | .int _ j=>l.length - j.toNat | _=>0) ⟨_,0,rfl,by simp [hl],by simp [hl,g5],by simp [hl,g13],by simp [hl,g14],by simp [hl,g15],by simp [hl],by simp [hl,Ya],by simp [hl],by omega,by simp [Wi]⟩ ?_
  clear hl g5 g13 g14 g15 u
  rintro env _ ⟨u,j,rfl,hl,g5,g13,g14,g15,g19,g20,g21,hj,rfl⟩
  rcases Qzn j l.length with hlt2 | hge2
  ·have hlt2':(j:Int)<(l.length:Int):=by omega
   have hx2:=w64 (n:=(j:Int)+1) (by omega) (by omega)
   obtain ⟨m,hmj⟩:∃ m,l[j]=m:=⟨_,rfl⟩
   have hm':l[j]? = some m:=by rw [Qze hlt2,hmj]
   have hmm:=(h3 m (Qzg hm')).2
   obtain ⟨m,rfl⟩:∃ k:Nat,m=k:=⟨m.toNat,by omega⟩
   have hmen':m<men:=by omega
   obtain ⟨N,hN⟩:∃ N,shP (S.take i)++Wi i (l.take j)=N:=⟨_,rfl⟩
   have hN1:shP (S.take i)++Wi i (l.take (j+1))=N++[(m,(i:Int))]:=by rw [Vci hm',← List.append_assoc,hN];simp
   have hsn:=Zfb men N m (i:Int) hmen'
   obtain ⟨c,hc⟩:∃ c,(Zm men N)[m]'(by rw [Wa3];exact hmen')=c:=⟨_,rfl⟩
   rw [hc] at hsn
   have hcb:0≤c∧c≤40:=by
    obtain ⟨C,hC⟩:=(⟨hl',hm',rfl⟩:Pre S i j l (m:Int) (shP (S.take i)++Wi i (l.take j))).split
    rw [hN] at hC
    have hcc:c=((N.filter fun p=>p.1 == m).length:Int):=by rw [← hc];simp [Zm]
    have hle:=Xcm m S.length S rfl fun l hl=>by
     obtain ⟨i,hi⟩:=List.getElem?_of_mem hl
     obtain ⟨n,_,_,_,h4,h5⟩:=hs.mem h hi
     exact ⟨h4,fun x hx=>(h5 x hx).2.1⟩
    unfold Uad at hle
    rw [hC,List.filter_append,List.length_append] at hle
    omega
   have hx3:=w64 (n:=c+1) (by omega) (by omega)
   have hmi:m<(Ya (Zm men N)).length:=by simp [Ya,Wa3];exact hmen'
   have hmg:(Ya (Zm men N))[m]? = some (.int .i64 c):=by rw [Qze hmi];simp [Ya,hc]
   have hm1:m+1≤men:=hmen'
   have hset:List.take m (Ya (Zm men N))++.int .i64 (c+1)::List.drop (m+1) (Ya (Zm men N))=Ya (Zm men (N++[(m,(i:Int))])):=by
    rw [← hsn]
    have e1:(Ya (Zm men N)).set m (.int .i64 (c+1))=List.take m (Ya (Zm men N))++.int .i64 (c+1)::List.drop (m+1) (Ya (Zm men N)):=by rw [List.set_eq_take_append_cons_drop,if_pos hmi]
    rw [← e1]
    unfold Ya
    rw [List.map_set]
   have hil:j<(Ya l).length:=by simpa [Ya] using hlt2
   have hx':(Ya l)[j]=.int .i64 m:=by simp [Ya,hmj]
   have hll2:(Ya (Zm men N)).length=men:=by simp [Ya,Wa3]
   have hml:(m:Int)<(men:Int):=by omega
   rw [hN]
   simp [-Xa,hl,g5,g13,g14,g15,g19,g20,g21,hlt2,hlt2',hil,hx',hll2,hml,hmg,hx3,hm1,hx2]
   rw [hset]
   exact ⟨⟨_,j+1,rfl,by simp [hl],by simp [hl,g5],by simp [hl,g13],by simp [hl,g14],by simp [hl,g15],by simp [hl,g19],by simp [hl,g20],by simp [hl],hlt2,by rw [hN1]⟩,by omega⟩
  ·obtain rfl:j=l.length:=by omega
   simp [-Xa,hl,g5,g13,g14,g15,g19,g20,g21,hx]
   exact ⟨⟨_,i+1,rfl,by simp [hl],by simp [hl,g5],by simp [hl,g13],by simp [hl,g14],by simp [hl],hlt,by rw [Vbs hl']⟩,by omega⟩
 ·obtain rfl:i=S.length:=by omega
  simp [-Xa,hl,g5,g13,g14,g15]
  have hll2:(Wt men S).length=men:=by simp [Wt]
  have:=Uaq (n:=σ.length) (σ:=σ++[AObj.cells [.int .i64 men,.pl 2 (r.ntcs.map Xc)],.cells (Ya (Zm men (shP S)))]) (r:=σ.length+1) (off:=0) (cs:=Ya (Zm men (shP S))) (l:=Wt men S) (by omega) (by simp) fun i x hx=>by
   unfold Ya
   rw [Nat.zero_add,Qzp,Uec,hx]
   rfl
  rw [hll2] at this
  exact this
end Ab

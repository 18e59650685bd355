/-
  Texts packed for a claim.
-/
import Derived.Test.YtdifgaapdnbliaaGreatDoorS00
import Derived.Test.YtdifgaapdnbliaaGreatDoorS16
import Derived.Test.YtdifgaapdnbliaaGreatDoorS17
import Derived.Test.YtdifgaapdnbliaaGreatDoorS22
set_option linter.all false
namespace Ab
open Go Go.RowKit Go.Proofs
section
variable [Mode]
theorem ACalls.fit {P:Program} {f:FuncId} {args:List AV} {σ:Za} {R:AV→Za→Prop}
  (h:ACalls P f args σ fun v σ'=>∃ (v':AV) (r:Nat) (cs tl:List AV),(v=v'∨∃ k2 r2 o2 l2 c2,v=.arc k2 r2 o2 l2 c2∧v'=.arr k2 r2 o2 l2)∧σ'[r]? = some (.cells (cs++tl))∧R v' (σ'.set r (.cells cs))):ACalls P f args σ R:=by
 have fin:∀ {C':Ctx} {v:AV} {d:Value} {σ':Za},Inv C' σ'→VR C' v d→(∃ (v':AV) (r:Nat) (cs tl:List AV),(v=v'∨∃ k2 r2 o2 l2 c2,v=.arc k2 r2 o2 l2 c2∧v'=.arr k2 r2 o2 l2)∧σ'[r]? = some (.cells (cs++tl))∧R v' (σ'.set r (.cells cs))) →
   ∃ (v':AV) (σ2:Za),Inv C' σ2∧VR C' v' d∧R v' σ2:=by
  rintro C' v d σ' hI' hv' ⟨v',r,ds,tl,hvv,hr',hR⟩
  have hb:∃ b,C'.blk[r]? = some b:=by
   have:=(Qzs.1 hr').1
   have hl:=hI'.len
   exact ⟨_,Qze (by omega)⟩
  obtain ⟨b,hb⟩:=hb
  refine ⟨v',_,hI'.retell hb hr' rfl fun c hc' hrel=>?_,?_,hR⟩
  ·obtain ⟨carr,e,lo,hi,rfl,h1,h2,h3⟩:=hrel.cells_inv
   refine .cells ds carr e lo hi (by rw [List.length_append] at h1;omega) h2 fun i x d hx hd=>h3 i x d ?_ hd
   rw [Qzl (Qzs.1 hx).1]
   exact hx
  ·rcases hvv with rfl | ⟨k2,r2,o2,l2,c2,rfl,rfl⟩
   ·exact hv'
   ·obtain ⟨b2,e2,n2,q1,q2,q3,q4,rfl⟩:=hv'.arc_inv
    exact .arr k2 r2 o2 l2 b2 c2 e2 n2 q1 q2 q3 q4
 rcases h with h | h
 ·refine .inl ⟨h.1,fun C cargs hI hv=>(h.2 C cargs hI hv).mono ?_⟩
  rintro en w' ⟨d,C',av,σ',rfl,rfl,hE,hI',hv',hR⟩
  obtain ⟨v',σ2,a1,a2,a3⟩:=fin hI' hv' hR
  exact ⟨d,C',v',σ2,rfl,rfl,hE,a1,a2,a3⟩
 ·refine .inr fun C cargs hI hv=>?_
  obtain ⟨d,C',av,σ',hrun,hE,hI',hv',hR⟩:=h C cargs hI hv
  obtain ⟨v',σ2,a1,a2,a3⟩:=fin hI' hv' hR
  exact ⟨d,C',v',σ2,hrun,hE,a1,a2,a3⟩
theorem Udo {P:Program} {rd:Option Nat} {c:Code} {Q:Exit→Env→Za→Prop} {t:List AV} {m:List Nat} {σ:Za} {q k r len:Nat} {cs:List AV} (ht:tg t q=.arr k r 0 len) (hq:q<t.length) (hr:σ[r]? = some (.cells cs)) (hcl:cs.length=len*k)
  (h:∀ cap,len≤cap→ACode P rd c Q { t:=ts t q (.arc k r 0 len cap),m:=m } (σ.set r (.cells (cs++List.replicate ((cap - len)*k) .any)))):ACode P rd c Q { t:=t,m:=m } σ:=by
 intro C a ro hI he hro
 have hta:t[q]? = some (.arr k r 0 len):=by
  rw [Qze hq]
  have:tg t q=t[q]:=by unfold tg;rw [List.getD_eq_getElem?_getD,Qze hq];rfl
  rw [← this,ht]
 have hlen:t.length=_:=he.t.len
 have hca:a.tmps.toList[q]? = some (a.tmps.toList[q]'(by omega)):=Qze (by omega)
 have hx:=he.t.at_ q _ _ hta hca
 obtain ⟨b,cap,e,n,hb,hcap,hsh,hbd,hce⟩:=hx.arr_inv
 obtain ⟨hnp,carr,e',lo,hi,hc,hsz,hfr,hrel⟩:=hI.cells hb hr
 have hn:carr.size=n:=by
  simp [World.shape?,hc] at hsh
  exact hsh.2
 have hI2:Inv C (σ.set r (.cells (cs++List.replicate ((cap - len)*k) .any))):=hI.retell hb hr rfl fun c hc' _=>by
  rw [hc] at hc'
  obtain rfl:=Option.some.inj hc'
  refine .cells _ carr e' lo hi ?_ hfr fun i x d hx hd=>?_
  ·rw [List.length_append,List.length_replicate,hcl,hn,← Nat.add_mul,show len+(cap - len)=0+cap by omega]
   exact hbd.1
  ·rcases Qzn i cs.length with h1 | h1
   ·rw [Qzl h1] at hx
    exact hrel i x d hx hd
   ·rw [Qzr h1] at hx
    have:=Qzg hx
    rw [List.mem_replicate] at this
    rw [this.2]
    exact .any d
 have hv2:VR C (.arc k r 0 len cap) a.tmps.toList[q]:=by rw [hce];exact .arc k r 0 len b cap e n hb hcap hsh hbd
 refine h cap hcap C a ro hI2 ⟨⟨?_,fun i x d hx hd=>?_⟩,he.m,he.mark⟩ hro
 ·show (ts t q _).length=_
  rw [Yb9];exact hlen
 ·show VR C x d
  have hx':(t.set q (.arc k r 0 len cap))[i]? = some x:=hx
  by_cases hiq:q=i
  ·subst hiq
   rw [List.getElem?_set_self hq] at hx'
   obtain rfl:=Option.some.inj hx'
   rw [hca] at hd
   obtain rfl:=Option.some.inj hd
   exact hv2
  ·rw [List.getElem?_set_ne hiq] at hx'
   exact he.t.at_ i x d hx' hd
theorem Ydm {P:Program} {f:FuncId} {fn:Func} {c:Code} {args:List AV} {σ:Za} {R:AV→Za→Prop} (n:Nat) (I:Env→Za→Prop) (hf:P.funcs[f]? = some fn) (hb:fn.body=some c) (hen:Enters P f)
  (h1:awp P none (Wm n c).1 (Zc I (QFn P fn R)) { t:=te args fn.ntmps } σ) (h2:∀ (env:Env) (σ:Za),I env σ→ACode P none (Wm n c).2 (QFn P fn R) env σ):ACalls P f args σ R:=by
 refine Ybe hf hb hen ?_
 have key:∀ (n:Nat) (c:Code) (Q:Exit→Env→Za→Prop) (env:Env) (σ:Za),(∀ (env:Env) (σ:Za),I env σ→ACode P none (Wm n c).2 Q env σ)→awp P none (Wm n c).1 (Zc I Q) env σ→ACode P none c Q env σ:=by
  intro n
  induction n with
  | zero =>
   intro c Q env σ h2 h1
   rw [Wbd] at h1
   have:=h2 _ _ h1
   have e:(Wm 0 c).2=c:=by cases c<;>rfl
   rwa [e] at this
  | succ n ih =>
   intro c Q env σ h2 h1
   have skip:(Wm (n+1) c)=(.skip,c)→ACode P none c Q env σ:=by
    intro e
    rw [e] at h1 h2
    exact h2 _ _ h1
   cases c with
   | seq a b =>
    refine Zax ((Yl _ (Ubk▸h1)).mono fun e env s hq=>?_)
    cases e with
    | normal=>exact ih b Q env s (fun env σ h=>h2 env σ h) hq
    | _=>exact hq
   | _=>exact skip rfl
 exact key n c _ _ _ h2 h1
end
attribute [local irreducible] aws awp aw1 Og Om Oc Oa Ogd Ov Ot awd Ub awh Xc Ogh Ohd awl Ogl Ohl awv Ogv Ohv Zc Wc QFn Zd QRo QBe ACode AYield
abbrev PV:=Oyez.Place × AV
def pvC (x:PV):List AV:=[.int .i64 x.1.kind,.int .i64 x.1.number,x.2]
def We (l:List PV):List AV:=l.flatMap pvC
theorem Zt (l:List PV):(We l).length=l.length*3:=by
 unfold We
 induction l with
 | nil=>rfl
 | cons p t ih=>rw [List.flatMap_cons,List.length_append,ih];simp [pvC];omega
theorem Vay (l m:List PV):We (l++m)=We l++We m:=by unfold We;rw [List.flatMap_append]
theorem Vao (l:List PV) (i:Nat) (h:i≤l.length):(We l).take (i*3)=We (l.take i)∧(We l).drop (i*3)=We (l.drop i):=by
 have e:We l=We (l.take i)++We (l.drop i):=by rw [← Vay,List.take_append_drop]
 have h1:(We (l.take i)).length=i*3:=by rw [Zt,List.length_take];omega
 rw [e,← h1]
 exact ⟨List.take_left,List.drop_left⟩
theorem Yaf (l:List PV) {i:Nat} (h:i<l.length):List.take 3 (List.drop (i*3) (We l))=[.int .i64 l[i].1.kind,.int .i64 l[i].1.number,l[i].2]:=by
 rw [(Vao l i (by omega)).2,List.drop_eq_getElem_cons h]
 rfl
theorem Vbw (l:List PV) (i:Nat) (x:PV) (h:i<l.length):List.take (i*3) (We l)++(AV.int .i64 x.1.kind::AV.int .i64 x.1.number::x.2::List.drop (i*3+3) (We l))=We (l.set i x):=by
 have e:i*3+3=(i+1)*3:=by omega
 rw [e,(Vao l i (by omega)).1,(Vao l (i+1) (by omega)).2,List.set_eq_take_append_cons_drop,if_pos h,Vay]
 rfl
theorem Wcd {l:List PV} (h:∀ x∈l,x.2.one=true):∀ y∈We l,AV.one y=true:=by
 intro y hy
 unfold We at hy
 obtain ⟨x,hx,hy⟩:=List.mem_flatMap.1 hy
 simp [pvC] at hy
 rcases hy with rfl | rfl | rfl
 ·rfl
 ·rfl
 ·exact h x hx
theorem Uad (k:IntKind) (n:Int):(AV.int k n).one=true:=rfl
theorem Vbp (p:Oyez.Place) (w:AV) (hw:w.one=true):APure Tryz.prog 83 [.agg [.int .i64 p.kind,.int .i64 p.number,w]] (Xd p):=by
 refine APure.of fun σ=>?_
 refine Ua Tryz.func83 rfl (Wa Tryz.func83 (by decide) rfl) ?_
 simp [-AV.one,Tryz.ntmps83,Uad,hw]
theorem Wbw (p q:Oyez.Place) (w:AV) (hw:w.one=true):APure Tryz.prog 181 [.agg [.int .i64 p.kind,.int .i64 p.number,w],Xd q] (.int .i64 (Vl p q)):=by
 refine APure.of fun σ=>?_
 refine Ua Tryz.func181 rfl (Wa Tryz.func181 (by decide) rfl) ?_
 simp [-AV.one,Tryz.ntmps181,Uad,hw]
 refine Zg mixed (by kernel_rfl) ?_
 simp [-AV.one,Uad,hw]
 refine Vd (Vbp p w hw) ?_
 try simp [-AV.one,Uad,hw]
 refine Vd (Ua4 p q) ?_
 simp
theorem Yd6 (p q:Oyez.Place):Ug [1,1] [.int .i64 p.kind,.int .i64 p.number] [.int .i64 q.kind,.int .i64 q.number]=some (decide (p=q)):=by
 have h:(p.kind == q.kind&&(p.number == q.number&&true))=decide (p=q):=by
  rw [Bool.eq_iff_iff]
  simp
  constructor
  ·rintro ⟨h1,h2⟩;exact Oyez.Place.ext' h1 h2
  ·rintro rfl;exact ⟨rfl,rfl⟩
 simp only [Ug,Vad,and_self,if_true]
 rw [h]
theorem Zb5 {t:Nat} (p q:Oyez.Place) (w:AV) (hw:w.one=true) (σ:Za) (ht:σ[t]? = some (.cells [.int .i64 q.kind,.int .i64 q.number])):ACalls Tryz.prog 179 [.agg [.int .i64 p.kind,.int .i64 p.number,w],.ptr t 0] σ fun v σ'=>v=.bool (decide (p=q))∧σ'=σ:=by
 refine ACalls.forget ?_
 refine Ua Tryz.func179 rfl (Wa Tryz.func179 (by decide) rfl) ?_
 have htl:=(Qzs.1 ht).1
 have htg:∀ g:Za,(σ++g)[t]? = some (.cells [.int .i64 q.kind,.int .i64 q.number]):=fun g=>Vf ht
 have haq:=Yd6 p q
 simp [-AV.one,Tryz.ntmps179,Uad,hw]
 refine Zg mixed (by kernel_rfl) ?_
 simp [-AV.one,-Ug,Uad,hw,htg]
 refine Vd (Vbp p w hw) ?_
 simp [-AV.one,-Ug,Uad,haq,htg]
set_option maxHeartbeats 2000000 in
theorem Xes {r t:Nat} (X:List PV) (q:Oyez.Place) (hX:∀ x∈X,x.2.one=true) (hn:X.length≤2^40) (σ:Za) (hr:σ[r]? = some (.cells (We X))) (ht:σ[t]? = some (.cells [.int .i64 q.kind,.int .i64 q.number])) :
  ACalls Tryz.prog 214 [.arr 3 r 0 X.length,.fn (.func 179) [] [.ptr t 0]] σ fun v σ'=>σ'=σ∧((v=.int .i64 (-1)∧∀ x∈X,x.1≠q)∨∃ (i:Nat) (h:i<X.length),v=.int .i64 i∧X[i].1=q∧∀ x∈X.take i,x.1≠q):=by
 refine Ua Tryz.func214 rfl (Wa Tryz.func214 (by decide) rfl) ?_
 have hlen:=Zt X
 simp [Tryz.ntmps214]
 refine Yc (fun env σ'=>∃ (u:List AV) (i:Nat),env={ t:=u }∧u.length=19∧tg u 0=.arr 3 r 0 X.length∧tg u 1=.fn (.func 179) [] [.ptr t 0]∧tg u 7=.int .i64 X.length∧tg u 8=.int .i64 i∧σ'=σ∧i≤X.length∧∀ x∈X.take i,x.1≠q)
  (fun env _=>match tg env.t 8 with | .int _ i=>X.length - i.toNat | _=>0) ⟨_,0,rfl,by simp,by simp,by simp,by simp,by simp,rfl,by omega,by simp⟩ ?_
 rintro env _ ⟨u,i,rfl,hl,g0,g1,g7,g8,rfl,hi,hno⟩
 rcases Qzn i X.length with hlt | hge
 ·have hlt':(i:Int)<(X.length:Int):=by omega
  have hx:=w64 (n:=(i:Int)+1) (by omega) (by omega)
  have hsb:=Yaf X hlt
  have hb:i*3+3≤X.length*3:=by omega
  simp [-AV.one,hl,g0,g1,g7,g8,hlt',hlt,hr,hlen,hsb,hb]
  refine StA.of ((Zb5 X[i].1 q X[i].2 (hX _ (List.getElem_mem hlt)) _ ht).mono ?_)
  rintro _ _ ⟨rfl,rfl⟩
  by_cases he:X[i].1=q
  ·simp [-AV.one,hl,g0,g1,g7,g8,hlt',hlt,he]
   exact ⟨i,rfl,⟨hlt,he⟩,fun a b hm=>hno (a,b) hm⟩
  ·simp [-AV.one,hl,g0,g1,g7,g8,hlt',hlt,he,hx]
   refine ⟨⟨i+1,by simp,by omega,fun a b hm=>?_⟩,by omega⟩
   rw [Qzt hlt] at hm
   rcases List.mem_append.1 hm with hm | hm
   ·exact hno (a,b) hm
   ·rw [List.mem_singleton] at hm
    rw [← hm] at he
    exact he
 ·have hge':¬ (i:Int)<(X.length:Int):=by omega
  rw [List.take_of_length_le hge] at hno
  simp [-AV.one,hl,g0,g1,g7,g8,hge']
  first | exact .inl fun a b hm=>hno (a,b) hm | exact fun a b hm=>hno (a,b) hm | (intro h;exact absurd (fun a b hm=>hno (a,b) hm) h)
end Ab
namespace Ab
open Go Go.RowKit Go.Proofs
attribute [local irreducible] aws awp aw1 Og Om Oc Oa Ogd Ov Ot awd Ub awh Xc Ogh Ohd awl Ogl Ohl awv Ogv Ohv Zc Wc QFn Zd QRo QBe ACode AYield
theorem Zcd:AV.nils.one=true:=rfl
def Zq (X:List PV) (q:Oyez.Place):List PV:=X.filter fun x=>!decide (x.1=q)
theorem Ucp {X:List PV} {q:Oyez.Place} (h:∀ x∈X,x.1≠q):Zq X q=X:=by
 unfold Zq
 rw [List.filter_eq_self]
 intro x hx
 simpa using h x hx
theorem Ucb (X:List PV) (q:Oyez.Place) (x:PV):Zq (X++[x]) q=if x.1=q then Zq X q else Zq X q++[x]:=by
 unfold Zq
 rw [List.filter_append,List.filter_cons]
 by_cases h:x.1=q<;>simp [h]
theorem Vd2 {r i n:Nat} {cs:List AV} {σ:Za} (hr:σ[r]? = some (.cells cs)) (hc:cs.length=n*3) (hi:i<n) :
  ∃ tl,tl.length=(n - i)*3∧Zv Tryz.prog #[23] (.arr 3 r i (n - i)) σ=some (.tup [],σ.set r (.cells (cs.take (i*3)++tl))):=by
 have he:Xg Tryz.prog 23=some 59:=by simp
 have hs:tsa Tryz.prog 59=some (3,true):=by simp
 have hz:Up Tryz.prog 59 (n - i)=some (List.replicate (n - i) [AV.int .i64 0,.int .i64 0,.nils]).flatten:=by
  rw [Vcc]
  simp
 have hl:((List.replicate (n - i) [AV.int .i64 0,.int .i64 0,.nils]).flatten).length=(n - i)*3:=by simp
 refine ⟨_,hl,?_⟩
 have hall:((List.replicate (n - i) [AV.int .i64 0,.int .i64 0,.nils]).flatten).all AV.one=true:=by
  rw [List.all_eq_true]
  intro x hx
  rw [List.mem_flatten] at hx
  obtain ⟨l,h1,h2⟩:=hx
  rw [List.mem_replicate] at h1
  rw [h1.2] at h2
  simp at h2
  rcases h2 with rfl | rfl<;>rfl
 simp only [Zv,he,hs,hz,hr]
 rw [if_pos ⟨trivial,by omega,hall⟩]
 have:wr cs (i*3) (List.replicate (n - i) [AV.int .i64 0,.int .i64 0,.nils]).flatten=cs.take (i*3)++(List.replicate (n - i) [AV.int .i64 0,.int .i64 0,.nils]).flatten:=by
  unfold wr
  rw [hl,List.drop_eq_nil_of_le (by rw [hc];omega),List.append_nil]
 rw [this]
set_option maxHeartbeats 4000000 in
theorem Yct {r t:Nat} (X:List PV) (q:Oyez.Place) (hX:∀ x∈X,x.2.one=true) (hn:X.length≤2^40) (hne:t≠r) (σ:Za) (hr:σ[r]? = some (.cells (We X))) (ht:σ[t]? = some (.cells [.int .i64 q.kind,.int .i64 q.number])) :
  ACalls Tryz.prog 178 [.arr 3 r 0 X.length,.fn (.func 179) [] [.ptr t 0]] σ fun v σ'=>v=.arr 3 r 0 (Zq X q).length∧∃ g,σ'=σ.set r (.cells (We (Zq X q)))++g:=by
 have hrl:=(Qzs.1 hr).1
 have htl:=(Qzs.1 ht).1
 have hself:σ.set r (.cells (We X))=σ:=by
  obtain ⟨h1,h2⟩:=Qzs.1 hr
  rw [← h2];exact List.set_getElem_self h1
 obtain ⟨n,hln⟩:∃ n,X.length=n:=⟨_,rfl⟩
 have hlen:=Zt X
 refine ACalls.fit ?_
 suffices hh:∀ Post:AV→Za→Prop,(∀ v σ',(∃ (v':AV) (r1:Nat) (cs tl:List AV),(v=v'∨∃ k2 r2 o2 l2 c2,v=.arc k2 r2 o2 l2 c2∧v'=.arr k2 r2 o2 l2)∧σ'[r1]? = some (.cells (cs++tl)) ∧
   (v'=.arr 3 r 0 (Zq X q).length∧∃ g,σ'.set r1 (.cells cs)=σ.set r (.cells (We (Zq X q)))++g))→Post v σ')→ACalls Tryz.prog 178 [.arr 3 r 0 X.length,.fn (.func 179) [] [.ptr t 0]] σ Post from hh _ fun _ _ h=>h
 intro Post hPost
 refine Ydm 5 (fun env σ'=>∃ (u:List AV) (Y:List PV) (tl:List AV) (g:Za),env={ t:=u }∧u.length=42∧tg u 0=.arr 3 r 0 n∧tg u 5=.int .i64 Y.length∧σ'=σ.set r (.cells (We Y++tl))++g∧Y=Zq X q∧(We Y++tl).length=n*3∧0<n∧Y.length≤n) Tryz.func178 rfl (Wa Tryz.func178 (by decide) rfl) ?_ ?_
 ·simp [-Zv,Tryz.ntmps178]
  refine StA.of ((Xes X q hX hn σ hr ht).mono ?_)
  rintro v s ⟨hs,⟨rfl,hall⟩ | ⟨i,hi,rfl,hiq,hno⟩⟩
  ·rw [hs]
   simp [-Zv]
   have hk:=Ucp hall
   refine hPost _ _ ⟨_,r,We X,[],.inl rfl,by rw [List.append_nil];exact hr,by rw [hk],[],by rw [hk,List.append_nil]⟩
  ·rw [hs]
   have hi1:¬ (i:Int)=-1:=by omega
   have hx:=w64 (n:=(i:Int)+1) (by omega) (by omega)
   rw [hln]
   simp [-Zv,hi1,hx]
   refine Yc (fun env σ'=>∃ (u:List AV) (i j:Nat) (Z:List PV) (g:Za),env={ t:=u }∧u.length=42∧tg u 0=.arr 3 r 0 n∧tg u 1=.fn (.func 179) [] [.ptr t 0]∧tg u 5=.int .i64 i∧tg u 6=.int .i64 j∧σ'=σ.set r (.cells (We Z))++g∧i<j∧j≤n∧Z.length=n∧Z.take i=Zq (X.take j) q∧(∀ m,j≤m→Z[m]? = X[m]?))
    (fun env _=>match tg env.t 6 with | .int _ i=>n - i.toNat | _=>0) ⟨_,i,i+1,X,[],rfl,by simp,by simp,by simp,by simp,by simp,by simp [hself],by omega,by omega,hln,by
     rw [Qzt hi,Ucb,if_pos hiq,Ucp hno],fun m _=>rfl⟩ ?_
   clear hiq hno hi hi1 hx
   rintro env _ ⟨u,i,j,Z,g,rfl,hl,g0,g1,g5,g6,rfl,hij,hj,hZ,hk,hrest⟩
   have hlz:=Zt Z
   rw [hZ] at hlz
   have hrg:∀ (Y:AObj) (g:Za),(σ.set r Y++g)[r]? = some Y:=fun Y g=>by rw [Qzl (by simpa using hrl)];simp [hrl]
   have hsg:∀ (Y Y':AObj) (g:Za),(σ.set r Y++g).set r Y'=σ.set r Y'++g:=fun Y Y' g=>set_set hrl Y Y'
   rcases Qzn j n with hlt | hge
   ·have hlt':(j:Int)<(n:Int):=by omega
    have hx:=w64 (n:=(j:Int)+1) (by omega) (by omega)
    have hxi:=w64 (n:=(i:Int)+1) (by omega) (by omega)
    have hjz:j<Z.length:=by omega
    have hjx:j<X.length:=by omega
    have hzx:Z[j]=X[j]:=by
     have:=hrest j (Nat.le_refl _)
     rw [Qze hjz,Qze hjx] at this
     exact Option.some.inj this
    have hone:Z[j].2.one=true:=by rw [hzx];exact hX _ (List.getElem_mem hjx)
    have hsb:=Yaf Z hjz
    have hb:j*3+3≤n*3:=by omega
    have hbi:i*3+3≤n*3:=by omega
    have hin:i<n:=by omega
    have hin':(i:Int)<(n:Int):=by omega
    have hpt:∀ (Y W:AObj) (g:Za),(σ.set r Y++(g++[W]))[σ.length+g.length]? = some W:=fun Y W g=>by
     rw [Qzr (by rw [List.length_set];omega),List.length_set,Nat.add_sub_cancel_left,Qzr (Nat.le_refl _),Nat.sub_self];rfl
    have hst:∀ (Y W W':AObj) (g:Za),(σ.set r Y++(g++[W])).set (σ.length+g.length) W'=σ.set r Y++(g++[W']):=fun Y W W' g=>by
     rw [List.set_append_right _ _ (by rw [List.length_set];omega),List.length_set,Nat.add_sub_cancel_left,List.set_append_right _ _ (Nat.le_refl _),Nat.sub_self];rfl
    have htt:∀ (Y:AObj) (g:Za),(σ.set r Y++g)[t]? = some (.cells [.int .i64 q.kind,.int .i64 q.number]):=fun Y g=>by
     rw [Qzl (by simpa using htl),List.getElem?_set_ne (Ne.symm hne)];exact ht
    have hset:=Vbw Z i Z[j] (by omega)
    have htk:X.take (j+1)=X.take j++[X[j]]:=Qzt hjx
    have hk2:=Ucb (X.take j) q X[j]
    rw [← htk] at hk2
    have hZi:(Z.set i Z[j]).take (i+1)=Z.take i++[Z[j]]:=by
     rw [Qzt (by rw [List.length_set];omega),List.getElem_set_self,List.take_set_of_le (Nat.le_refl _)]
    simp [-AV.one,-Zv,hl,g0,g1,g5,g6,hlt',hlt,hrg,hlz,hsb,hb,hpt,hst,Uad,Zcd,hone]
    refine StA.of ((Zb5 Z[j].1 q Z[j].2 hone _ (htt _ _)).mono ?_)
    rintro _ _ ⟨rfl,rfl⟩
    by_cases he:Z[j].1=q
    ·simp [-AV.one,-Zv,hl,g0,g1,g5,g6,hlt',hlt,he,hx]
     refine ⟨⟨i,rfl,j+1,by simp,Z,⟨_,rfl⟩,by omega,by omega,hZ,?_,fun m hm=>hrest m (by omega)⟩,by omega⟩
     rw [hk2,if_pos (hzx▸he),hk]
    ·simp [-AV.one,-Zv,hl,g0,g1,g5,g6,hlt',hlt,he,hx,hrg,hsg,hlz,hpt,Uad,Zcd,hone,hin,hin',hbi,hset,hxi]
     refine ⟨⟨i+1,by simp,j+1,by simp,Z.set i Z[j],⟨_,rfl⟩,by omega,by omega,by simp [hZ],?_,fun m hm=>?_⟩,by omega⟩
     ·rw [hZi,hk2,if_neg (fun e=>he (hzx▸e)),hk,hzx]
     ·rw [List.getElem?_set_ne (by omega)]
      exact hrest m (by omega)
   ·obtain rfl:j=n:=by omega
    have hge':¬ (j:Int)<(j:Int):=by omega
    have hin:i<j:=by omega
    obtain ⟨tl,htl1,hcl⟩:=Vd2 (σ:=σ.set r (.cells (We Z))++g) (r:=r) (i:=i) (n:=j) (hrg _ _) hlz hin
    have hin1:i≤j:=by omega
    have hin2:¬ i=j:=by omega
    simp [-AV.one,-Zv,hl,g0,g1,g5,g6,hin1,hin2,hcl]
    have hY:Z.take i=Zq X q:=by rw [hk,List.take_of_length_le (by omega)]
    have hYl:i=(Zq X q).length:=by rw [← hY,List.length_take];omega
    have hct:=(Vao Z i (by omega)).1
    rw [hsg,hct,hY]
    refine ⟨_,by rw [hYl],tl,⟨_,rfl⟩,rfl,?_,by omega,by omega⟩
    rw [Zt,htl1,← hYl,← Nat.add_mul,show i+(j - i)=j by omega]
 ·rintro env _ ⟨u,Y,tl,g,rfl,hl,g0,g5,rfl,hY,hc,hn0,hYn⟩
  refine Udo (q:=0) g0 (by omega) (cs:=We Y++tl) (by rw [Qzl (by simpa using hrl)];simp [hrl]) hc fun cap hcap=>?_
  refine Yl _ ?_
  rw [set_set hrl]
  have hm:Y.length≤cap:=by omega
  have hm0:¬ cap=0:=by omega
  simp [-AV.one,hl,g0,g5,hm,hm0]
  refine hPost _ _ ⟨.arr 3 r 0 Y.length,r,We Y,tl++List.replicate ((cap - n)*3) .any,.inr ⟨_,_,_,_,_,rfl,rfl⟩,?_,by rw [hY],g,?_⟩
  ·rw [Qzl (by simpa using hrl)]
   simp [hrl]
  ·rw [set_set hrl,hY]
end Ab

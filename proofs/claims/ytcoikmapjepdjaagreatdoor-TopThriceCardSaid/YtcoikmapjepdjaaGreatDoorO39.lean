/-
  Texts packed for a claim.
-/
import Derived.Test.YtcoikmapjepdjaaGreatDoorO00
import Derived.Test.YtcoikmapjepdjaaGreatDoorO13
import Derived.Test.YtcoikmapjepdjaaGreatDoorO22
import Derived.Test.YtcoikmapjepdjaaGreatDoorO37
import Derived.Test.YtcoikmapjepdjaaGreatDoorO38
set_option linter.all false
namespace Ab
open Go Go.RowKit Go.Proofs
section
variable [Mode]
theorem ACalls.fit {P:Program} {f:FuncId} {args:List AV} {σ:Za} {R:AV→Za→Prop}
  (h:ACalls P f args σ fun v σ'=>∃ (v':AV) (r:Nat) (cs tl:List AV),(v=v'∨∃ k2 r2 o2 l2 c2,v=.arc k2 r2 o2 l2 c2∧v'=.arr k2 r2 o2 l2)∧σ'[r]? = some (.cells (cs++tl))∧R v' (σ'.set r (.cells cs))):ACalls P f args σ R:=by
 have fin:∀ {C':Ctx} {v:AV} {d:Value} {σ':Za},Inv C' σ'→VR C' v d→(∃ (v':AV) (r:Nat) (cs tl:List AV),(v=v'∨∃ k2 r2 o2 l2 c2,v=.arc k2 r2 o2 l2 c2∧v'=.arr k2 r2 o2 l2)∧σ'[r]? = some (.cells (cs++tl))∧R v' (σ'.set r (.cells cs))) →
   ∃ (v':AV) (σ2:Za),Inv C' σ2∧VR C' v' d∧R v' σ2:=by
  rintro C' v d σ' hI' hv' ⟨v',r,ds,tl,hvv,hr',hR⟩
  have hb:∃ b,C'.blk[r]? = some b:=by
   have:=(Qzs.1 hr').1
   have hl:=hI'.len
   exact ⟨_,Qze (by omega)⟩
  obtain ⟨b,hb⟩:=hb
  refine ⟨v',_,hI'.retell hb hr' rfl fun c hc' hrel=>?_,?_,hR⟩
  ·obtain ⟨carr,e,lo,hi,rfl,h1,h2,h3⟩:=hrel.cells_inv
   refine .cells ds carr e lo hi (by rw [List.length_append] at h1;omega) h2 fun i x d hx hd=>h3 i x d ?_ hd
   rw [Qzl (Qzs.1 hx).1]
   exact hx
  ·rcases hvv with rfl | ⟨k2,r2,o2,l2,c2,rfl,rfl⟩
   ·exact hv'
   ·obtain ⟨b2,e2,n2,q1,q2,q3,q4,rfl⟩:=hv'.arc_inv
    exact .arr k2 r2 o2 l2 b2 c2 e2 n2 q1 q2 q3 q4
 rcases h with h | h
 ·refine .inl ⟨h.1,fun C cargs hI hv=>(h.2 C cargs hI hv).mono ?_⟩
  rintro en w' ⟨d,C',av,σ',rfl,rfl,hE,hI',hv',hR⟩
  obtain ⟨v',σ2,a1,a2,a3⟩:=fin hI' hv' hR
  exact ⟨d,C',v',σ2,rfl,rfl,hE,a1,a2,a3⟩
 ·refine .inr fun C cargs hI hv=>?_
  obtain ⟨d,C',av,σ',hrun,hE,hI',hv',hR⟩:=h C cargs hI hv
  obtain ⟨v',σ2,a1,a2,a3⟩:=fin hI' hv' hR
  exact ⟨d,C',v',σ2,hrun,hE,a1,a2,a3⟩
theorem Wh6 {P:Program} {rd:Option Nat} {c:Code} {Q:Exit→Env→Za→Prop} {t:List AV} {m:List Nat} {σ:Za} {q k r len:Nat} {cs:List AV} (ht:tg t q=.arr k r 0 len) (hq:q<t.length) (hr:σ[r]? = some (.cells cs)) (hcl:cs.length=len*k)
  (h:∀ cap,len≤cap→ACode P rd c Q { t:=ts t q (.arc k r 0 len cap),m:=m } (σ.set r (.cells (cs++List.replicate ((cap - len)*k) .any)))):ACode P rd c Q { t:=t,m:=m } σ:=by
 intro C a ro hI he hro
 have hta:t[q]? = some (.arr k r 0 len):=by
  rw [Qze hq]
  have:tg t q=t[q]:=by unfold tg;rw [List.getD_eq_getElem?_getD,Qze hq];rfl
  rw [← this,ht]
 have hlen:t.length=_:=he.t.len
 have hca:a.tmps.toList[q]? = some (a.tmps.toList[q]'(by omega)):=Qze (by omega)
 have hx:=he.t.at_ q _ _ hta hca
 obtain ⟨b,cap,e,n,hb,hcap,hsh,hbd,hce⟩:=hx.arr_inv
 obtain ⟨hnp,carr,e',lo,hi,hc,hsz,hfr,hrel⟩:=hI.cells hb hr
 have hn:carr.size=n:=by
  simp [World.shape?,hc] at hsh
  exact hsh.2
 have hI2:Inv C (σ.set r (.cells (cs++List.replicate ((cap - len)*k) .any))):=hI.retell hb hr rfl fun c hc' _=>by
  rw [hc] at hc'
  obtain rfl:=Option.some.inj hc'
  refine .cells _ carr e' lo hi ?_ hfr fun i x d hx hd=>?_
  ·rw [List.length_append,List.length_replicate,hcl,hn,← Nat.add_mul,show len+(cap - len)=0+cap by omega]
   exact hbd.1
  ·rcases Qzn i cs.length with h1 | h1
   ·rw [Qzl h1] at hx
    exact hrel i x d hx hd
   ·rw [Qzr h1] at hx
    have:=Qzg hx
    rw [List.mem_replicate] at this
    rw [this.2]
    exact .any d
 have hv2:VR C (.arc k r 0 len cap) a.tmps.toList[q]:=by rw [hce];exact .arc k r 0 len b cap e n hb hcap hsh hbd
 refine h cap hcap C a ro hI2 ⟨⟨?_,fun i x d hx hd=>?_⟩,he.m,he.mark⟩ hro
 ·show (ts t q _).length=_
  rw [Yc1];exact hlen
 ·show VR C x d
  have hx':(t.set q (.arc k r 0 len cap))[i]? = some x:=hx
  by_cases hiq:q=i
  ·subst hiq
   rw [List.getElem?_set_self hq] at hx'
   obtain rfl:=Option.some.inj hx'
   rw [hca] at hd
   obtain rfl:=Option.some.inj hd
   exact hv2
  ·rw [List.getElem?_set_ne hiq] at hx'
   exact he.t.at_ i x d hx' hd
theorem Vdk {P:Program} {f:FuncId} {fn:Func} {c:Code} {args:List AV} {σ:Za} {R:AV→Za→Prop} (n:Nat) (I:Env→Za→Prop) (hf:P.funcs[f]? = some fn) (hb:fn.body=some c) (hen:Enters P f)
  (h1:awp P none (Vd n c).1 (Xb I (QFn P fn R)) { t:=te args fn.ntmps } σ) (h2:∀ (env:Env) (σ:Za),I env σ→ACode P none (Vd n c).2 (QFn P fn R) env σ):ACalls P f args σ R:=by
 refine Yau hf hb hen ?_
 have key:∀ (n:Nat) (c:Code) (Q:Exit→Env→Za→Prop) (env:Env) (σ:Za),(∀ (env:Env) (σ:Za),I env σ→ACode P none (Vd n c).2 Q env σ)→awp P none (Vd n c).1 (Xb I Q) env σ→ACode P none c Q env σ:=by
  intro n
  induction n with
  | zero =>
   intro c Q env σ h2 h1
   rw [Wbe] at h1
   have:=h2 _ _ h1
   have e:(Vd 0 c).2=c:=by cases c<;>rfl
   rwa [e] at this
  | succ n ih =>
   intro c Q env σ h2 h1
   have skip:(Vd (n+1) c)=(.skip,c)→ACode P none c Q env σ:=by
    intro e
    rw [e] at h1 h2
    exact h2 _ _ h1
   cases c with
   | seq a b =>
    refine Yag ((Yi _ (Wa7▸h1)).mono fun e env s hq=>?_)
    cases e with
    | normal=>exact ih b Q env s (fun env σ h=>h2 env σ h) hq
    | _=>exact hq
   | _=>exact skip rfl
 exact key n c _ _ _ h2 h1
end
attribute [local irreducible] aws awp aw1 Og Om Oc Oa Ogd Ov Ot awd Zb awh Wb Ogh Ohd awl Ogl Ohl awv Ogv Ohv Xb Vb QFn Ub QRo QBe ACode AYield
abbrev PV:=Oyez.Place × AV
def pvC (x:PV):List AV:=[.int .i64 x.1.kind,.int .i64 x.1.number,x.2]
def Zi9 (l:List PV):List AV:=l.flatMap pvC
theorem Ydw (k:IntKind) (n:Int):(AV.int k n).one=true:=rfl
end Ab
namespace Ab
open Go Go.RowKit Go.Proofs
theorem Yaa (l:List Int):(Ya l).length=l.length:=by simp [Ya]
theorem Ucb {l:List Int} {i:Nat} (h:i<l.length):(Ya l)[i]? = some (.int .i64 l[i]):=by simp [Ya,h]
theorem Yc0 (l:List Int) (m x:Int):(l++[x]).filter (fun y=>y != m)=if x=m then l.filter (fun y=>y != m) else l.filter (fun y=>y != m)++[x]:=by
 rw [List.filter_append,List.filter_cons]
 by_cases h:x=m<;>simp [h]
theorem filter_all {l:List Int} {m:Int} (h:∀ x∈l,x≠m):l.filter (fun y=>y != m)=l:=List.filter_eq_self.2 fun x hx=>by simpa using h x hx
attribute [local irreducible] aws awp aw1 Og Om Oc Oa Ogd Ov Ot awd Zb awh Wb Ogh Ohd awl Ogl Ohl awv Ogv Ohv Xb Vb QFn Ub Xi QRo QBe Ui Uj ACode AYield
theorem Yif {r i n:Nat} {cs:List AV} {σ:Za} (hr:σ[r]? = some (.cells cs)) (hc:cs.length=n) (hi:i<n) :
  ∃ tl,tl.length=n - i∧Zx Tryz.prog #[32] (.arr 1 r i (n - i)) σ=some (.tup [],σ.set r (.cells (cs.take i++tl))):=by
 have he:Wc Tryz.prog 32=some 3:=by simp
 have hs:tsa Tryz.prog 3=some (1,false):=by simp
 have hz:Xv Tryz.prog 3 (n - i)=some (List.replicate (n - i) [AV.int .i64 0]).flatten:=by
  rw [Wcy]
  simp
 have hl:((List.replicate (n - i) [AV.int .i64 0]).flatten).length=n - i:=by simp
 refine ⟨_,hl,?_⟩
 have hall:((List.replicate (n - i) [AV.int .i64 0]).flatten).all AV.one=true:=by
  rw [List.all_eq_true]
  intro x hx
  rw [List.mem_flatten] at hx
  obtain ⟨l,h1,h2⟩:=hx
  rw [List.mem_replicate] at h1
  rw [h1.2] at h2
  simp at h2
  rw [h2];rfl
 simp only [Zx,he,hs,hz,hr]
 rw [if_pos ⟨trivial,by omega,hall⟩]
 have:wr cs (i*1) (List.replicate (n - i) [AV.int .i64 0]).flatten=cs.take i++(List.replicate (n - i) [AV.int .i64 0]).flatten:=by
  unfold wr
  rw [hl,List.drop_eq_nil_of_le (by rw [hc];omega),List.append_nil,Nat.mul_one]
 rw [this]
theorem Xcs (x m:Int) (q:Nat) (σ:Za) (hq:σ[q]? = some (.cells [.int .i64 m])):ACalls Tryz.prog 331 [.int .i64 x,.ptr q 0] σ fun v s=>v=.bool (decide (x=m))∧s=σ:=by
 refine Yb Tryz.func331 rfl (Ua Tryz.func331 (by decide) rfl) ?_
 simp [Tryz.ntmps331,hq]
set_option maxHeartbeats 2000000 in
theorem Xf5 {r q:Nat} (X:List Int) (m:Int) (hn:X.length≤2^40) (σ:Za) (hr:σ[r]? = some (.cells (Ya X))) (hq:σ[q]? = some (.cells [.int .i64 m])) :
  ACalls Tryz.prog 152 [.arr 1 r 0 X.length,.fn (.func 331) [] [.ptr q 0]] σ fun v σ'=>σ'=σ∧((v=.int .i64 (-1)∧∀ x∈X,x≠m)∨∃ (i:Nat) (h:i<X.length),v=.int .i64 i∧X[i]=m∧∀ x∈X.take i,x≠m):=by
 refine Yb Tryz.func152 rfl (Ua Tryz.func152 (by decide) rfl) ?_
 have hlen:=Yaa X
 simp [Tryz.ntmps152]
 refine Xc (fun env σ'=>∃ (u:List AV) (i:Nat),env={ t:=u }∧u.length=19∧tg u 0=.arr 1 r 0 X.length∧tg u 1=.fn (.func 331) [] [.ptr q 0]∧tg u 7=.int .i64 X.length∧tg u 8=.int .i64 i∧σ'=σ∧i≤X.length∧∀ x∈X.take i,x≠m)
  (fun env _=>match tg env.t 8 with | .int _ i=>X.length - i.toNat | _=>0) ⟨_,0,rfl,by simp,by simp,by simp,by simp,by simp,rfl,by omega,by simp⟩ ?_
 rintro env _ ⟨u,i,rfl,hl,g0,g1,g7,g8,rfl,hi,hno⟩
 rcases Qzn i X.length with hlt | hge
 ·have hlt':(i:Int)<(X.length:Int):=by omega
  have hx:=w64 (n:=(i:Int)+1) (by omega) (by omega)
  have hil:i<(Ya X).length:=by omega
  have hix:=Ucb hlt
  have hix':(Ya X)[i]'hil=.int .i64 X[i]:=by simp [Ya]
  have hlt2:i+1≤X.length:=hlt
  simp [-AV.one,hl,g0,g1,g7,g8,hlt',hlt,hr,hlen,hix,hix',hil,hlt2]
  refine StA.of ((Xcs X[i] m q _ hq).mono ?_)
  rintro _ _ ⟨rfl,rfl⟩
  by_cases he:X[i]=m
  ·simp [-AV.one,hl,g0,g1,g7,g8,hlt',hlt,he]
   exact ⟨i,rfl,⟨hlt,he⟩,hno⟩
  ·simp [-AV.one,hl,g0,g1,g7,g8,hlt',hlt,he,hx]
   refine ⟨⟨i+1,by simp,by omega,fun a hm=>?_⟩,by omega⟩
   rw [Qzt hlt] at hm
   rcases List.mem_append.1 hm with hm | hm
   ·exact hno a hm
   ·rw [List.mem_singleton] at hm
    rw [hm]
    exact he
 ·have hge':¬ (i:Int)<(X.length:Int):=by omega
  rw [List.take_of_length_le hge] at hno
  simp [-AV.one,hl,g0,g1,g7,g8,hge']
  first | exact .inl hno | exact hno | (intro h;exact absurd hno h)
def Vq (X:List Int) (m:Int):List Int:=X.filter (fun y=>y != m)
set_option maxHeartbeats 4000000 in
theorem Xii {r t:Nat} (X:List Int) (q:Int) (hn:X.length≤2^40) (hne:t≠r) (σ:Za) (hr:σ[r]? = some (.cells (Ya X))) (ht:σ[t]? = some (.cells [.int .i64 q])) :
  ACalls Tryz.prog 330 [.arr 1 r 0 X.length,.fn (.func 331) [] [.ptr t 0]] σ fun v σ'=>v=.arr 1 r 0 (Vq X q).length∧σ'=σ.set r (.cells (Ya (Vq X q))):=by
 have hrl:=(Qzs.1 hr).1
 have htl:=(Qzs.1 ht).1
 have hself:σ.set r (.cells (Ya X))=σ:=by
  obtain ⟨h1,h2⟩:=Qzs.1 hr
  rw [← h2];exact List.set_getElem_self h1
 obtain ⟨n,hln⟩:∃ n,X.length=n:=⟨_,rfl⟩
 have hlen:=Yaa X
 refine ACalls.fit ?_
 suffices hh:∀ Post:AV→Za→Prop,(∀ v σ',(∃ (v':AV) (r1:Nat) (cs tl:List AV),(v=v'∨∃ k2 r2 o2 l2 c2,v=.arc k2 r2 o2 l2 c2∧v'=.arr k2 r2 o2 l2)∧σ'[r1]? = some (.cells (cs++tl)) ∧
   (v'=.arr 1 r 0 (Vq X q).length∧σ'.set r1 (.cells cs)=σ.set r (.cells (Ya (Vq X q)))))→Post v σ')→ACalls Tryz.prog 330 [.arr 1 r 0 X.length,.fn (.func 331) [] [.ptr t 0]] σ Post from hh _ fun _ _ h=>h
 intro Post hPost
 refine Vdk 5 (fun env σ'=>∃ (u:List AV) (Y:List Int) (tl:List AV),env={ t:=u }∧u.length=42∧tg u 0=.arr 1 r 0 n∧tg u 5=.int .i64 Y.length∧σ'=σ.set r (.cells (Ya Y++tl))∧Y=Vq X q∧(Ya Y++tl).length=n∧0<n∧Y.length≤n) Tryz.func330 rfl (Ua Tryz.func330 (by decide) rfl) ?_ ?_
 ·simp [-Zx,Tryz.ntmps330]
  refine StA.of ((Xf5 X q hn σ hr ht).mono ?_)
  rintro v s ⟨hs,⟨rfl,hall⟩ | ⟨i,hi,rfl,hiq,hno⟩⟩
  ·rw [hs]
   simp [-Zx]
   have hk:Vq X q=X:=filter_all hall
   refine hPost _ _ ⟨_,r,Ya X,[],.inl rfl,by rw [List.append_nil];exact hr,by rw [hk],by rw [hk]⟩
  ·rw [hs]
   have hi1:¬ (i:Int)=-1:=by omega
   have hx:=w64 (n:=(i:Int)+1) (by omega) (by omega)
   rw [hln]
   simp [-Zx,hi1,hx]
   refine Xc (fun env σ'=>∃ (u:List AV) (i j:Nat) (Z:List Int),env={ t:=u }∧u.length=42∧tg u 0=.arr 1 r 0 n∧tg u 1=.fn (.func 331) [] [.ptr t 0]∧tg u 5=.int .i64 i∧tg u 6=.int .i64 j∧σ'=σ.set r (.cells (Ya Z))∧i<j∧j≤n∧Z.length=n∧Z.take i=Vq (X.take j) q∧∀ m,j≤m→Z[m]? = X[m]?)
    (fun env _=>match tg env.t 6 with | .int _ i=>n - i.toNat | _=>0) ⟨_,i,i+1,X,rfl,by simp,by simp,by simp,by simp,by simp,by simp [hself],by omega,by omega,hln,by
     rw [Qzt hi]
     unfold Vq
     rw [Yc0,if_pos hiq,filter_all hno],fun m _=>rfl⟩ ?_
   clear hiq hno hi hi1 hx
   rintro env _ ⟨u,i,j,Z,rfl,hl,g0,g1,g5,g6,rfl,hij,hj,hZ,hk,hrest⟩
   have hlz:=Yaa Z
   rw [hZ] at hlz
   have hrg:∀ (Y:AObj),(σ.set r Y)[r]? = some Y:=fun Y=>by simp [hrl]
   have hsg:∀ (Y Y':AObj),(σ.set r Y).set r Y'=σ.set r Y':=fun Y Y'=>by rw [List.set_set]
   have htt:∀ (Y:AObj),(σ.set r Y)[t]? = some (.cells [.int .i64 q]):=fun Y=>by rw [List.getElem?_set_ne (Ne.symm hne)];exact ht
   rcases Qzn j n with hlt | hge
   ·have hlt':(j:Int)<(n:Int):=by omega
    have hx:=w64 (n:=(j:Int)+1) (by omega) (by omega)
    have hxi:=w64 (n:=(i:Int)+1) (by omega) (by omega)
    have hjz:j<Z.length:=by omega
    have hjx:j<X.length:=by omega
    have hzx:Z[j]=X[j]:=by
     have:=hrest j (Nat.le_refl _)
     rw [Qze hjz,Qze hjx] at this
     exact Option.some.inj this
    have hjl:j<(Ya Z).length:=by omega
    have hix:=Ucb hjz
    have hix':(Ya Z)[j]'hjl=.int .i64 Z[j]:=by simp [Ya]
    have hlt2:j+1≤n:=hlt
    have hin:i<n:=by omega
    have hin2:i+1≤n:=by omega
    have hin':(i:Int)<(n:Int):=by omega
    have hset:(Ya Z).take i++.int .i64 Z[j]::(Ya Z).drop (i+1)=Ya (Z.set i Z[j]):=by
     unfold Ya
     rw [List.map_set,List.set_eq_take_append_cons_drop,if_pos (by simp;omega)]
    have htk:X.take (j+1)=X.take j++[X[j]]:=Qzt hjx
    have hk2:Vq (X.take (j+1)) q=if X[j]=q then Vq (X.take j) q else Vq (X.take j) q++[X[j]]:=by rw [htk];exact Yc0 _ _ _
    have hZi:(Z.set i Z[j]).take (i+1)=Z.take i++[Z[j]]:=by
     rw [Qzt (by rw [List.length_set];omega),List.getElem_set_self,List.take_set_of_le (Nat.le_refl _)]
    simp [-AV.one,-Zx,hl,g0,g1,g5,g6,hlt',hlt,hrg,hlz,hix,hix',hjl,hlt2]
    refine StA.of ((Xcs Z[j] q t _ (htt _)).mono ?_)
    rintro _ _ ⟨rfl,rfl⟩
    by_cases he:Z[j]=q
    ·simp [-AV.one,-Zx,hl,g0,g1,g5,g6,hlt',hlt,he,hx]
     refine ⟨⟨i,rfl,j+1,by simp,Z,rfl,by omega,by omega,hZ,?_,fun m hm=>hrest m (by omega)⟩,by omega⟩
     rw [hk2,if_pos (hzx▸he),hk]
    ·simp [-AV.one,-Zx,hl,g0,g1,g5,g6,hlt',hlt,he,hx,hrg,hsg,hlz,hin,hin2,hin',hset,hxi,Ydw]
     refine ⟨⟨i+1,by simp,j+1,by simp,Z.set i Z[j],rfl,by omega,by omega,by simp [hZ],?_,fun m hm=>?_⟩,by omega⟩
     ·rw [hZi,hk2,if_neg (fun e=>he (hzx▸e)),hk,hzx]
     ·rw [List.getElem?_set_ne (by omega)]
      exact hrest m (by omega)
   ·obtain rfl:j=n:=by omega
    have hge':¬ (j:Int)<(j:Int):=by omega
    have hin:i<j:=by omega
    obtain ⟨tl,htl1,hcl⟩:=Yif (σ:=σ.set r (.cells (Ya Z))) (r:=r) (i:=i) (n:=j) (hrg _) hlz hin
    have hin1:i≤j:=by omega
    have hin2:¬ i=j:=by omega
    simp [-AV.one,-Zx,hl,g0,g1,g5,g6,hin1,hin2,hcl]
    have hY:Z.take i=Vq X q:=by rw [hk,List.take_of_length_le (by omega)]
    have hYl:i=(Vq X q).length:=by rw [← hY,List.length_take];omega
    have hct:(Ya Z).take i=Ya (Z.take i):=by unfold Ya;rw [List.map_take]
    rw [hct,hY]
    refine ⟨_,by rw [hYl],tl,rfl,rfl,?_,by omega,by omega⟩
    rw [Yaa,htl1,← hYl];omega
 ·rintro env _ ⟨u,Y,tl,rfl,hl,g0,g5,rfl,hY,hc,hn0,hYn⟩
  refine Wh6 (q:=0) g0 (by omega) (cs:=Ya Y++tl) (by simp [hrl]) (by rw [hc,Nat.mul_one]) fun cap hcap=>?_
  refine Yi _ ?_
  rw [List.set_set]
  have hm:Y.length≤cap:=by omega
  have hm0:¬ cap=0:=by omega
  simp [-AV.one,hl,g0,g5,hm,hm0]
  refine hPost _ _ ⟨.arr 1 r 0 Y.length,r,Ya Y,tl++List.replicate (cap - n) .any,.inr ⟨_,_,_,_,_,rfl,rfl⟩,?_,by rw [hY],?_⟩
  ·simp [hrl]
  ·rw [List.set_set,hY]
end Ab
namespace Ab
open Go Go.RowKit Go.Proofs
@[simp] theorem Viz {P:Program} {σ:Za} {env:Env} {Kv:AV→Prop} {dst:Option Nat} {ty:TypeId} {pos:String} {after:Array Edge} {g:Option (Nat × Bool)} {f:Fn} {xs ys:Array Operand}:Zb P ⟨dst,.makeFunc f xs ys,ty,pos,after,g⟩ Kv env σ=Kv (.fn f (xs.toList.map (Wa env.t)) (ys.toList.map (Wa env.t))):=by
 rw [Zq rfl,Ubv];exact propext ⟨fun h=>h.2,fun h=>⟨rfl,h⟩⟩
def pS:Nat→Nat
 | 0=>2
 | 1=>2
 | _=>3
def pD:Nat→Nat
 | 0=>3
 | _=>4
def pC:Nat→Nat
 | 0=>4
 | 1=>3
 | _=>2
def dkL (z:Nat) (r:Rl) (n:Nat) (ld:Nat→Int):List AV:=[.int .i64 r.men,.pl 2 (r.ntcs.map Zc),.arr 1 (n+pS z) 0 r.ntcs.length,.int .i64 (ld 0),.int .i64 (ld 1),.int .i64 (ld 2),.int .i64 (ld 3),.int .i64 (ld 4)]
def Yw (z n:Nat):AV:=.fn (.func 224) [] [.ptr (n+pC z) 0,.ptr (n+1) 0]
def dk3 (z:Nat) (a b c:AObj):Za:=match z with
 | 0=>[a,b,c]
 | 1=>[a,c,b]
 | _=>[c,a,b]
def dkB (z:Nat) (σ:Za) (r:Rl) (most:Int) (vs:List AV) (ld:Nat→Int):Za:=σ++(.cells [.int .i64 r.men,.pl 2 (r.ntcs.map Zc)]::.cells [.int .i64 most]::(dk3 z (.cells vs) (.cells (dkL z r σ.length ld)) (.cells [.ptr (σ.length+pD z) 0])++[.cells [Yw z σ.length]]))
def dkZ (σ:Za):Za:=σ++[.dead,.dead,.dead,.dead,.dead,.dead]
theorem Vo (z:Nat) (σ:Za) (r:Rl) (most:Int) (vs:List AV) (ld:Nat→Int):(dkB z σ r most vs ld).length=σ.length+6:=by match z with | 0=>simp [dkB,dk3] | 1=>simp [dkB,dk3] | z+2=>simp [dkB,dk3]
theorem Vao (σ:Za):(dkZ σ).length=σ.length+6:=by simp [dkZ]
section
variable (z:Nat) (σ:Za) (r:Rl) (most:Int) (vs:List AV) (ld:Nat→Int) (X:Za)
theorem Ye3:(dkB z σ r most vs ld++X)[σ.length+1]? = some (.cells [.int .i64 most]):=by match z with | 0=>simp [dkB,dk3,pS,pD,pC] | 1=>simp [dkB,dk3,pS,pD,pC] | z+2=>simp [dkB,dk3,pS,pD,pC]
theorem Zae:(dkB z σ r most vs ld++X)[σ.length+pS z]? = some (.cells vs):=by match z with | 0=>simp [dkB,dk3,pS,pD,pC] | 1=>simp [dkB,dk3,pS,pD,pC] | z+2=>simp [dkB,dk3,pS,pD,pC]
theorem Ww:(dkB z σ r most vs ld++X)[σ.length+pD z]? = some (.cells (dkL z r σ.length ld)):=by match z with | 0=>simp [dkB,dk3,pS,pD,pC] | 1=>simp [dkB,dk3,pS,pD,pC] | z+2=>simp [dkB,dk3,pS,pD,pC]
theorem Ubf:(dkB z σ r most vs ld++X)[σ.length+pC z]? = some (.cells [.ptr (σ.length+pD z) 0]):=by match z with | 0=>simp [dkB,dk3,pS,pD,pC] | 1=>simp [dkB,dk3,pS,pD,pC] | z+2=>simp [dkB,dk3,pS,pD,pC]
theorem Zf7:(dkB z σ r most vs ld++X)[σ.length+5]? = some (.cells [Yw z σ.length]):=by match z with | 0=>simp [dkB,dk3,pS,pD,pC] | 1=>simp [dkB,dk3,pS,pD,pC] | z+2=>simp [dkB,dk3,pS,pD,pC]
theorem Zah (j:Nat):(dkB z σ r most vs ld++X)[σ.length+6+j]? = X[j]?:=by
 rw [Qzr (by rw [Vo];omega),Vo,Nat.add_sub_cancel_left]
theorem Ua2 (vs':List AV):(dkB z σ r most vs ld++X).set (σ.length+pS z) (.cells vs')=dkB z σ r most vs' ld++X:=by match z with | 0=>simp [dkB,dk3,pS,pD,pC] | 1=>simp [dkB,dk3,pS,pD,pC] | z+2=>simp [dkB,dk3,pS,pD,pC]
theorem Vb3 (ld':Nat→Int):(dkB z σ r most vs ld++X).set (σ.length+pD z) (.cells (dkL z r σ.length ld'))=dkB z σ r most vs ld'++X:=by match z with | 0=>simp [dkB,dk3,pS,pD,pC] | 1=>simp [dkB,dk3,pS,pD,pC] | z+2=>simp [dkB,dk3,pS,pD,pC]
theorem Ucn (vs':List AV):(dkB z σ r most vs ld).set (σ.length+pS z) (.cells vs')=dkB z σ r most vs' ld:=by match z with | 0=>simp [dkB,dk3,pS,pD,pC] | 1=>simp [dkB,dk3,pS,pD,pC] | z+2=>simp [dkB,dk3,pS,pD,pC]
theorem Zb2 (ld':Nat→Int):(dkB z σ r most vs ld).set (σ.length+pD z) (.cells (dkL z r σ.length ld'))=dkB z σ r most vs ld':=by match z with | 0=>simp [dkB,dk3,pS,pD,pC] | 1=>simp [dkB,dk3,pS,pD,pC] | z+2=>simp [dkB,dk3,pS,pD,pC]
theorem Wbu (j:Nat) (y:AObj):(dkB z σ r most vs ld++X).set (σ.length+6+j) y=dkB z σ r most vs ld++X.set j y:=by
 rw [List.set_append_right _ _ (by rw [Vo];omega),Vo,Nat.add_sub_cancel_left]
end
theorem Uw (z:Nat) (r:Rl) (n:Nat) (ld:Nat→Int):(dkL z r n ld).length=8:=rfl
theorem Zar (z:Nat) (r:Rl) (n:Nat) (ld:Nat→Int):(dkL z r n ld)[0]? = some (.int .i64 r.men):=rfl
theorem Uai (z:Nat) (r:Rl) (n:Nat) (ld:Nat→Int):(dkL z r n ld)[1]? = some (.pl 2 (r.ntcs.map Zc)):=rfl
theorem Xac (z:Nat) (r:Rl) (n:Nat) (ld:Nat→Int):(dkL z r n ld)[2]? = some (.arr 1 (n+pS z) 0 r.ntcs.length):=rfl
theorem Xbw (z:Nat) (r:Rl) (n:Nat) (ld:Nat→Int) {m:Nat} (h:m<5):(dkL z r n ld)[3+m]? = some (.int .i64 (ld m)):=by
 have:m=0∨m=1∨m=2∨m=3∨m=4:=by omega
 rcases this with rfl | rfl | rfl | rfl | rfl<;>rfl
theorem Vcs (z:Nat) (r:Rl) (n:Nat) (ld:Nat→Int) {m:Nat} (h:m<5) (v:Int):List.take (3+m) (dkL z r n ld)++AV.int .i64 v::List.drop (3+m+1) (dkL z r n ld)=dkL z r n fun k=>if (k:Int)=m then v else ld k:=by
 have:m=0∨m=1∨m=2∨m=3∨m=4:=by omega
 rcases this with rfl | rfl | rfl | rfl | rfl<;>simp [dkL]
def Yx (l:List Int):List (AV × AV):=l.map fun m=>(.int .i64 m,.bool true)
structure DkSt (σ:Za) (K:Nat) (g:Za) (vs:List AV) (os:Nat→Option Nat) (jm:Nat) (s:DS):Prop where
 sh:ShAcc (dkZ σ) g K vs s.F os
 map:g[jm]? = some (.map (Yx s.met))
 dis:∀ x,x<K→os x≠some jm
structure Kp (K jm:Nat) (g:Za) (os:Nat→Option Nat) (g':Za) (os':Nat→Option Nat):Prop where
 len:g.length≤g'.length
 keep:∀ j,j<g.length→j≠jm→(∀ x,x<K→os x≠some j)→g'[j]? = g[j]?
 own:∀ x,x<K→∀ j,os' x=some j→os x=some j∨g.length≤j
theorem Kp.refl (K jm:Nat) (g:Za) (os:Nat→Option Nat):Kp K jm g os g os:=⟨Nat.le_refl _,fun _ _ _ _=>rfl,fun _ _ _ h=>.inl h⟩
theorem Kp.trans {K jm:Nat} {g g' g'':Za} {os os' os'':Nat→Option Nat} (h:Kp K jm g os g' os') (h':Kp K jm g' os' g'' os''):Kp K jm g os g'' os'':=by
 refine ⟨Nat.le_trans h.len h'.len,fun j hj hm ho=>?_,fun x hx j hj=>?_⟩
 ·rw [h'.keep j (Nat.lt_of_lt_of_le hj h.len) hm fun x hx e=>?_,h.keep j hj hm ho]
  rcases h.own x hx j e with e | e
  ·exact ho x hx e
  ·omega
 ·rcases h'.own x hx j hj with e | e
  ·exact h.own x hx j e
  ·exact .inr (Nat.le_trans h.len e)
theorem ShAcc.lt {b g:Za} {K:Nat} {vs:List AV} {F:Nat→List Int} {os:Nat→Option Nat} (h:ShAcc b g K vs F os) {x j:Nat} (hx:x<K) (hj:os x=some j):j<g.length:=by
 obtain ⟨v,_,hA⟩:=h.acc x hx
 have:=hA.val
 rw [hj] at this
 exact (Qzs.1 this.2).1
theorem DkSt.more {σ:Za} {K:Nat} {g:Za} {vs:List AV} {os:Nat→Option Nat} {jm:Nat} {s:DS} (h:DkSt σ K g vs os jm s) (x:Za):DkSt σ K (g++x) vs os jm s∧Kp K jm g os (g++x) os:=by
 have hjm:=(Qzs.1 h.map).1
 have hk:∀ j,j<g.length→(g++x)[j]? = g[j]?:=fun j hj=>Qzl hj
 refine ⟨⟨⟨h.sh.len,fun n hn=>?_,h.sh.dis⟩,by rw [hk jm hjm];exact h.map,h.dis⟩,by simp,fun j hj _ _=>hk j hj,fun _ _ _ e=>.inl e⟩
 obtain ⟨v,hv,hA⟩:=h.sh.acc n hn
 exact ⟨v,hv,hA.kept (o:=none) (fun j _ hj=>hk j hj) (fun j e=>by cases e)⟩
theorem DkSt.push {σ:Za} {K:Nat} {g:Za} {vs:List AV} {os:Nat→Option Nat} {jm:Nat} {s:DS} (h:DkSt σ K g vs os jm s) {b:Za} (hb:b.length=σ.length+6) {n:Nat} (hn:n<K) {v:AV} (hv:vs[n]? = some v) (x:Int) (hl:(s.F n).length≤2^20) :
  ∃ v' g' os',Xa Tryz.prog #[32,32] v (.pl 1 [.int .i64 x]) (b++g)=some (v',b++g')∧(∃ j ln,v'=.arr 1 j 0 ln)∧DkSt σ K g' (vs.set n v') os' jm (s.give x n)∧Kp K jm g os g' os':=by
 have hsh:=h.sh.base (b':=b) (by rw [hb,Vao])
 obtain ⟨w,hw,hA⟩:=hsh.acc n hn
 rw [hv] at hw
 obtain rfl:=Option.some.inj hw
 obtain ⟨v',g',jo,he,hA',hv',hkeep,hjo⟩:=Vfa hA x (by omega)
 have hjm:=(Qzs.1 h.map).1
 have hjg:jo<g'.length:=by
  have:=hA'.val
  exact (Qzs.1 this.2).1
 have hlt:∀ k,k<K→∀ j,os k=some j→j<g.length:=fun k hk j e=>hsh.lt hk e
 have hjom:jo≠jm:=by
  rintro rfl
  rcases hjo with h1 | h1
  ·exact h.dis n hn h1.symm
  ·omega
 have hglen:g.length≤g'.length:=by
  by_cases h0:g.length=0
  ·omega
  ·rcases hjo with h1 | h1
   ·refine Classical.byContradiction fun hc=>?_
    by_cases hl:g.length - 1=jo
    ·omega
    ·have:=hkeep (g.length - 1) (by rw [← h1];intro e;exact hl (Option.some.inj e)) (by omega)
     rw [Qze (show g.length - 1<g.length by omega),List.getElem?_eq_none (show g'.length≤g.length - 1 by omega)] at this
     cases this
   ·omega
 refine ⟨v',g',fun k=>if k=n then some jo else os k,he,⟨_,_,hv'⟩,⟨⟨by simp [hsh.len],fun k hk=>?_,fun p q hp hq hne j e1 e2=>?_⟩,?_,fun k hk=>?_⟩,hglen,fun j hj hm ho=>hkeep j (fun e=>ho n hn e.symm) hj,fun k hk j e=>?_⟩
 ·by_cases hkn:k=n
  ·subst hkn
   refine ⟨v',by rw [List.getElem?_set_self (by rw [hsh.len];exact hk)],?_⟩
   have:=hA'.base (σ':=dkZ σ) (by rw [hb,Vao])
   simpa [DS.give] using this
  ·obtain ⟨w,hw,hAk⟩:=h.sh.acc k hk
   refine ⟨w,by rw [List.getElem?_set_ne (fun e=>hkn e.symm)];exact hw,?_⟩
   have:=hAk.kept hkeep fun j e1 e2=>hsh.dis n k hn hk (fun e=>hkn e.symm) j e1 e2
   simpa [DS.give,hkn] using this
 ·by_cases hpn:p=n
  ·subst hpn
   have hqn:¬ q=p:=fun e=>hne e.symm
   simp only [if_pos rfl,if_neg hqn] at e1 e2
   obtain rfl:=Option.some.inj e1
   rcases hjo with h1 | h1
   ·exact hsh.dis p q hp hq hne jo h1.symm e2
   ·have:=hlt q hq jo e2;omega
  ·by_cases hqn:q=n
   ·subst hqn
    simp only [if_pos rfl,if_neg hpn] at e1 e2
    obtain rfl:=Option.some.inj e2
    rcases hjo with h1 | h1
    ·exact hsh.dis p q hp hq hne jo e1 h1.symm
    ·have:=hlt p hp jo e1;omega
   ·simp only [if_neg hpn,if_neg hqn] at e1 e2
    exact hsh.dis p q hp hq hne j e1 e2
 ·rw [hkeep jm (fun e=>h.dis n hn e.symm) hjm];exact h.map
 ·by_cases hkn:k=n
  ·simp only [if_pos hkn];intro e;exact hjom (Option.some.inj e)
  ·simp only [if_neg hkn];exact h.dis k hk
 ·by_cases hkn:k=n
  ·simp only [if_pos hkn] at e
   obtain rfl:=Option.some.inj e
   subst hkn
   rcases hjo with h1 | h1
   ·exact .inl h1.symm
   ·exact .inr (by omega)
  ·simp only [if_neg hkn] at e;exact .inl e
attribute [local irreducible] aws awp aw1 Og Om Oc Oa Ogd Ov Ot awd Zb awh Wb Ogh Ohd awl Ogl Ohl awv Ogv Ohv Xb Vb QFn Ub Xi QRo QBe Ui Uj ACode AYield dkB dkL
set_option maxHeartbeats 2000000 in
theorem Vcg {z:Nat} {σ:Za} {r:Rl} {most:Int} {g:Za} {vs:List AV} {os:Nat→Option Nat} {jm:Nat} {s:DS} (hst:DkSt σ r.ntcs.length g vs os jm s) {n m:Nat} (hn:n<r.ntcs.length) (hm:m<5) (hl:(s.F n).length≤2^20) (hb:-100≤s.ld m∧s.ld m≤100) (hK:r.ntcs.length≤6) :
  ACalls Tryz.prog 284 [.ptr (σ.length+pD z) 0,.int .i64 m,.int .i64 n] (dkB z σ r most vs s.ld++g) fun _ s'=>∃ vs' g' os',s'=dkB z σ r most vs' (s.give m n).ld++g'∧DkSt σ r.ntcs.length g' vs' os' jm (s.give m n)∧Kp r.ntcs.length jm g os g' os':=by
 have hvl:=hst.sh.len
 have hnv:n<vs.length:=by omega
 have hnv1:n+1≤vs.length:=hnv
 have hn1:n+1≤r.ntcs.length:=hn
 have hn':(n:Int)<(r.ntcs.length:Int):=by omega
 have hv:vs[n]? = some (vs[n]'hnv):=Qze hnv
 obtain ⟨v,hve⟩:∃ v,vs[n]'hnv=v:=⟨_,rfl⟩
 rw [hve] at hv
 obtain ⟨v',g',os',he,⟨jj,ln,rfl⟩,hst',hkp⟩:=hst.push (b:=dkB z σ r most vs s.ld) (Vo _ _ _ _ _ _) hn hv m hl
 have hvs:List.take n vs++AV.arr 1 jj 0 ln::List.drop (n+1) vs=vs.set n (.arr 1 jj 0 ln):=by rw [List.set_eq_take_append_cons_drop,if_pos hnv]
 have hm1:m+1≤5:=hm
 have hm3:3+m+1≤8:=by omega
 have hm4:3+m<8:=by omega
 have hm':(m:Int)<5:=by omega
 have hld:=Xbw z r σ.length s.ld hm
 have hw:=w64 (n:=s.ld m+1) (by omega) (by omega)
 refine Yb Tryz.func284 rfl (Ua Tryz.func284 (by decide) rfl) ?_
 simp [-Xa,Tryz.ntmps284]
 refine Ut [14,16] [(0,1),(1,1),(2,1),(3,1),(4,1)] mixed (by kernel_rfl) (by kernel_rfl) ?_
 simp [-Xa,Ww,Zae,Vo,Uw,Zar,Uai,Xac,hn,hn1,hn',hnv,hnv1,hve,hv]
 rw [he,Xk]
 simp [-Xa,Ww,Zae,Ua2,Vo,Uw,Zar,Uai,Xac,hn,hn1,hn',hnv,hnv1,hve,hv]
 rw [hvs]
 try simp only [Ucn,Ua2]
 refine Ut [10] [] mixed (by kernel_rfl) (by kernel_rfl) ?_
 simp [-Xa,Ww,Zae,Ua2,Vo,Uw,Zar,Uai,Xac,hm,hm1,hm',hld,hw,hm3,hm4]
 rw [Vcs z r σ.length s.ld hm]
 simp only [Zb2,Vb3]
 have e:(s.give m n).ld=fun (k:Nat)=>if (k:Int)=m then s.ld m+1 else s.ld k:=by
  funext k
  show (if (k:Int)=m then s.ld k+1 else s.ld k)=_
  split
  ·rename_i e;rw [show k=m by omega]
  ·rfl
 exact ⟨_,_,by rw [e],_,hst',hkp⟩
theorem DkSt.lay {σ:Za} {K:Nat} {g:Za} {vs:List AV} {os:Nat→Option Nat} {jm:Nat} {s:DS} (h:DkSt σ K g vs os jm s) {n j:Nat} (hn:n<K) (hj:os n=some j) (x:Int) :
  DkSt σ K (g.set j (.cells (Ya (Vq (s.F n) x)))) (vs.set n (.arr 1 (σ.length+6+j) 0 (Vq (s.F n) x).length)) os jm (s.take x n)∧Kp K jm g os (g.set j (.cells (Ya (Vq (s.F n) x)))) os:=by
 have hlt:∀ k,k<K→∀ j,os k=some j→j<g.length:=fun k hk j e=>h.sh.lt hk e
 have hjm:jm≠j:=fun e=>h.dis n hn (e▸hj)
 refine ⟨⟨⟨by simp [h.sh.len],fun k hk=>?_,h.sh.dis⟩,by rw [List.getElem?_set_ne (Ne.symm hjm)];exact h.map,h.dis⟩,by simp,fun i hi hm ho=>List.getElem?_set_ne (fun e=>ho n hn (by rw [hj,e])),fun _ _ _ e=>.inl e⟩
 obtain ⟨w,hw,hA⟩:=h.sh.acc k hk
 by_cases hkn:k=n
 ·subst hkn
  refine ⟨_,by rw [List.getElem?_set_self (by rw [h.sh.len];exact hk)],fun y hy=>by obtain ⟨z,_,rfl⟩:=List.mem_map.1 hy;exact ⟨rfl,by simp [AV.cells,AV.one]⟩,?_⟩
  have e:(s.take x k).F k=Vq (s.F k) x:=by show (if k=k then _ else _)=_;rw [if_pos rfl];rfl
  rw [hj,e]
  refine ⟨by rw [Vao,Yaa],?_⟩
  rw [List.getElem?_set_self (hlt k hk j hj),Xae (fun y hy=>by obtain ⟨z,_,rfl⟩:=List.mem_map.1 hy;rfl)]
 ·refine ⟨w,by rw [List.getElem?_set_ne (fun e=>hkn e.symm)];exact hw,?_⟩
  have e:(s.take x n).F k=s.F k:=by show (if k=n then _ else _)=_;rw [if_neg hkn]
  rw [e]
  refine ⟨hA.len,?_⟩
  have hv:=hA.val
  cases ho:os k with
  | none=>rw [ho] at hv;exact hv
  | some i =>
   rw [ho] at hv
   refine ⟨hv.1,?_⟩
   rw [List.getElem?_set_ne (fun e=>h.sh.dis n k hn hk (fun e=>hkn e.symm) j hj (by rw [ho,e]))]
   exact hv.2
set_option maxHeartbeats 2000000 in
theorem Yh9 {z:Nat} {σ:Za} {r:Rl} {most:Int} {g:Za} {vs:List AV} {os:Nat→Option Nat} {jm:Nat} {s:DS} (hst:DkSt σ r.ntcs.length g vs os jm s) {n m:Nat} (hn:n<r.ntcs.length) (hm:m<5) (hl:(s.F n).length≤2^20) (hin:(m:Int)∈s.F n) (hb:-100≤s.ld m∧s.ld m≤100) (hK:r.ntcs.length≤6) :
  ACalls Tryz.prog 283 [.ptr (σ.length+pD z) 0,.int .i64 m,.int .i64 n] (dkB z σ r most vs s.ld++g) fun _ s'=>∃ vs' g' os',s'=dkB z σ r most vs' (s.take m n).ld++g'∧DkSt σ r.ntcs.length g' vs' os' jm (s.take m n)∧Kp r.ntcs.length jm g os g' os':=by
 have hst0:=hst
 obtain ⟨hst,hkp0⟩:=hst.more [.cells [.int .i64 m]]
 obtain ⟨g1,hg1⟩:∃ g1,g++[AObj.cells [.int .i64 m]]=g1:=⟨_,rfl⟩
 rw [hg1] at hst hkp0
 have hmg:g1[g.length]? = some (.cells [.int .i64 m]):=by rw [← hg1];simp
 have hvl:=hst.sh.len
 have hnv:n<vs.length:=by omega
 obtain ⟨v,hv,hA⟩:=hst.sh.acc n hn
 have hve:vs[n]'hnv=v:=Option.some.inj ((Qze hnv).symm.trans hv)
 obtain ⟨j,hj⟩:∃ j,os n=some j:=by
  cases ho:os n with
  | some j=>exact ⟨j,rfl⟩
  | none =>
   rw [ho] at hA
   have:s.F n=[]:=by simpa [Ya] using hA.val.2
   rw [this] at hin;cases hin
 have hvj:=hA.val
 rw [hj,Vao,Xae (fun y hy=>by obtain ⟨z,_,rfl⟩:=List.mem_map.1 hy;rfl),Yaa] at hvj
 obtain ⟨rfl,hgj⟩:=hvj
 obtain ⟨hst2,hkp⟩:=hst.lay hn hj (m:Int)
 have hjb:j≠g.length:=by
  have:=hst0.sh.lt hn hj
  omega
 have hnv1:n+1≤vs.length:=hnv
 have hn1:n+1≤r.ntcs.length:=hn
 have hn':(n:Int)<(r.ntcs.length:Int):=by omega
 have cD:=Xii (r:=σ.length+6+j) (t:=σ.length+6+g.length) (s.F n) (m:Int) (by omega) (by omega) (dkB z σ r most vs s.ld++g1) (by rw [Zah];exact hgj) (by rw [Zah];exact hmg)
 rw [Wbu] at cD
 have hvs:∀ y,List.take n vs++y::List.drop (n+1) vs=vs.set n y:=fun y=>by rw [List.set_eq_take_append_cons_drop,if_pos hnv]
 have hm1:m+1≤5:=hm
 have hm3:3+m+1≤8:=by omega
 have hm4:3+m<8:=by omega
 have hm':(m:Int)<5:=by omega
 have hld:=Xbw z r σ.length s.ld hm
 have hw:=w64 (n:=s.ld m - 1) (by omega) (by omega)
 refine Yb Tryz.func283 rfl (Ua Tryz.func283 (by decide) rfl) ?_
 simp [-Xa,Tryz.ntmps283,Vo]
 rw [hg1]
 refine Ut [13,15] [(0,1),(1,1),(2,1),(3,1),(4,1)] mixed (by kernel_rfl) (by kernel_rfl) ?_
 simp [-Xa,Ww,Zae,Vo,Uw,Zar,Uai,Xac,hn,hn1,hn',hnv,hnv1,hve,hv]
 refine Uaa cD ?_
 simp [-Xa,Ww,Zae,Ua2,Vo,Uw,Zar,Uai,Xac,hn,hn1,hn',hnv,hnv1,hve,hv,hvs,Ucn]
 refine Ut [10] [] mixed (by kernel_rfl) (by kernel_rfl) ?_
 have hmg2:(g1.set j (.cells (Ya (Vq (s.F n) m))))[g.length]? = some (.cells [.int .i64 m]):=by rw [List.getElem?_set_ne hjb];exact hmg
 simp [-Xa,Ww,Zae,Zah,Ua2,Vo,Uw,Zar,Uai,Xac,hm,hm1,hm',hld,hw,hm3,hm4,hmg2]
 rw [Vcs z r σ.length s.ld hm]
 simp only [Zb2,Vb3]
 have e:(s.take m n).ld=fun (k:Nat)=>if (k:Int)=m then s.ld m - 1 else s.ld k:=by
  funext k
  show (if (k:Int)=m then s.ld k - 1 else s.ld k)=_
  split
  ·rename_i e;rw [show k=m by omega]
  ·rfl
 exact ⟨_,_,by rw [e],_,hst2,hkp0.trans hkp⟩
end Ab

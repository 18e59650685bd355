/-
  Texts packed for a claim.
-/
import Derived.Test.YtcoikmapjepdjaaGreatDoorE00
import Derived.Test.YtcoikmapjepdjaaGreatDoorE31
set_option linter.all false
namespace Ab
open Go Go.RowKit Go.Proofs
theorem appW {S g:Za} {v:AV} {L:List (List Int × AV)} {o:Option Nat} (hA:Acc S g 1 v (L.map Prod.snd) o) (x:List Int × AV) (hx:x.2.one=true∧x.2.cells=[x.2]) (hl:L.length≤2^20) :
  ∃ v' g' jo,Xa Tryz.prog #[38,38] v (.arr 1 (S.length+g.length) 0 1) (S++(g++[.cells [x.2]]))=some (v',S++g')∧Acc S g' 1 v' ((L++[x]).map Prod.snd) (some jo)∧v'=.arr 1 (S.length+jo) 0 (L.length+1)∧(∀ j,some j≠o→j<g.length→g'[j]? = g[j]?)∧(some jo=o∨g.length≤jo):=by
 obtain ⟨v',g',o',he,hA',hlen,hkeep,ho⟩:=hA.push (P:=Tryz.prog) (t:=38) (e:=32) (ag:=false) (x:=x.2) (by simp) (by simp) (by simp) (by omega) ⟨by rw [hx.2];rfl,fun y hy=>by rw [hx.2,List.mem_singleton] at hy;rw [hy];exact hx.1⟩ (by simp;omega)
 have e:L.map Prod.snd++[x.2]=(L++[x]).map Prod.snd:=by simp
 rw [e] at hA'
 rw [hx.2] at he
 obtain ⟨jo,rfl⟩:∃ jo,o'=some jo:=by
  cases o' with
  | none=>exact absurd hA'.val.2 (by simp)
  | some jo=>exact ⟨jo,rfl⟩
 refine ⟨v',g',jo,he,hA',by rw [hA'.val.1];simp,hkeep,?_⟩
 rcases ho with h | ⟨m,h1,h⟩
 ·exact .inl h
 ·exact .inr (by simp at h;omega)
def Xer (r:Rl) (i:Nat) (l:List Int):Prop:=∀ n,r.ntcs[i]? = some n→(l.length:Int)=n.times∧l.Pairwise (·<·)∧∀ x∈l,x∈n.men
def DlA (r:Rl) (l:List UInt8) (d:Nat) (σ:Za) (env:Env) (σ':Za):Prop:=∃ (u:List AV) (i:Nat) (v:AV) (L:List (List Int × AV)) (g:Za) (o:Option Nat) (a:Nat) (c:Int),env={ t:=u }∧u.length=48∧tg u 0=.ptr d 0∧tg u 5=v∧tg u 12=.pl 2 (r.ntcs.map Ub)∧tg u 13=.int .i64 r.ntcs.length∧tg u 14=.int .i64 i∧i≤r.ntcs.length∧L.length=i ∧
 σ'=(σ.set d (Yc l a c)++[.cells [.int .i64 r.men,.pl 2 (r.ntcs.map Ub)]])++g∧a≤l.length∧Acc (σ++[zRl]) g 1 v (L.map Prod.snd) o∧(∀ p∈L,RowAt (σ.length+1) g o p.2 p.1)∧∀ (j:Nat) p,L[j]? = some p→Xer r j p.1
def DlB (r:Rl) (d:Nat) (T:Za) (v:AV) (q rr i tm:Nat) (R men:List Int) (env:Env) (σ':Za):Prop:=∃ (u:List AV) (j:Nat) (w:AV) (P:List Int) (g:Za) (o:Option Nat),env={ t:=u }∧u.length=48∧tg u 0=.ptr d 0∧tg u 5=v∧tg u 7=.ptr q 0∧tg u 8=w∧tg u 12=.pl 2 (r.ntcs.map Ub)∧tg u 13=.int .i64 r.ntcs.length∧tg u 14=.int .i64 i∧tg u 25=.arr 1 rr 0 tm∧tg u 26=.int .i64 tm∧tg u 27=.int .i64 j∧j≤tm∧σ'=T++g∧Acc T g 1 w (Ya P) o∧P=(R.take j).map fun k=>men.getD k.toNat 0
attribute [local irreducible] aws awp aw1 Og Om Oc Oa Ogd Ov Ot awd Ua awh Xb Ogh Ohd awl Ogl Ohl awv Ogv Ohv Wb Vb QFn Zc Vg QRo QBe Yf Yg ACode AYield
set_option maxHeartbeats 4000000 in
theorem Yfa (r:Rl) (hr:r.Ok) (σ:Za) (d:Nat) (l:List UInt8) (a:Nat) (c:Int) (h:σ[d]? = some (Yc l a c)) (ha:a≤l.length) (hl:l.length≤9223372036854775807) :
  ACalls Tryz.prog 17 [.ptr d 0,Ug r] σ fun v s=>∃ (S:List (List Int)) (a':Nat) (c':Int),v=Uj S∧ShOk r S∧a'≤l.length∧s=σ.set d (Yc l a' c'):=by
 have hd:=(Qzs.1 h).1
 have h0:σ.set d (Yc l a c)=σ:=by
  apply List.ext_getElem?
  intro i
  rw [List.getElem?_set]
  split
  ·rename_i e;subst e;exact h.symm
  ·rfl
 have hfew:=hr.few
 refine ACalls.forgetT ?_
 refine Yb Tryz.func17 rfl (Zb Tryz.func17 (by decide) rfl) ?_
 have hbA:∀ (B:AObj) (X:Za),(σ.set d B++X)[d]? = some B:=fun B X=>Xbf hd B
 simp [-Xa,Tryz.ntmps17,Ug]
 refine Wd (DlA r l d σ) (fun env _=>match tg env.t 14 with | .int _ i=>r.ntcs.length - i.toNat | _=>0) ⟨_,0,.nils,[],[],none,a,c,rfl,by simp,by simp,by simp,by simp,by simp,by simp,by omega,rfl,by simp [h0],ha,Acc.nil _ _ _,by simp,by simp⟩ ?_
 rintro env _ ⟨u,i,v,L,g,o,a3,c3,rfl,hl2,g0,g5,g12,g13,g14,hi,hLl,rfl,ha3,hA,hL,hD⟩
 obtain ⟨S,hS⟩:∃ S,σ.set d (Yc l a3 c3)++[AObj.cells [.int .i64 r.men,.pl 2 (r.ntcs.map Ub)]]=S:=⟨_,rfl⟩
 have hSl:S.length=σ.length+1:=by rw [← hS];simp
 rcases Qzn i r.ntcs.length with hlt | hge
 ·have hlt':(i:Int)<(r.ntcs.length:Int):=by omega
  have hx:=w64 (n:=(i:Int)+1) (by omega) (by omega)
  obtain ⟨n,hn⟩:∃ n,r.ntcs[i]=n:=⟨_,rfl⟩
  have ok:n.Ok r.men:=hn▸hr.each _ (List.getElem_mem hlt)
  have hsh:=ok.short hr.m5
  have hSd:∀ X:Za,(S++X)[d]? = some (Yc l a3 c3):=fun X=>by rw [← hS,List.append_assoc];exact hbA _ _
  have hSs:∀ (X:Za) (a c),(S++X).set d (Yc l a c)=(σ.set d (Yc l a c)++[AObj.cells [.int .i64 r.men,.pl 2 (r.ntcs.map Ub)]])++X:=fun X a c=>by rw [← hS,List.append_assoc,set_set hd,List.append_assoc]
  obtain ⟨tm,htm⟩:∃ tm:Nat,n.times=tm:=⟨n.times.toNat,by have:=ok.t1;omega⟩
  have hnt:Ub n=.agg [.int .i64 tm,.pl 1 (Ya n.men)]:=by unfold Ub;rw [htm]
  obtain ⟨nm,hnm⟩:∃ nm:Nat,n.men.length=nm:=⟨_,rfl⟩
  have hnc:∀ X:Za,(S++(g++.cells [.int .i64 tm,.pl 1 (Ya n.men)]::X))[S.length+g.length]? = some (.cells [.int .i64 tm,.pl 1 (Ya n.men)]):=fun X=>by rw [Qzr (by omega),Nat.add_sub_cancel_left];simp
  obtain ⟨w,s9,hrg,R,a4,c4,g2,o2,rfl,hRl,hRn,hRm,ha4,hA2⟩:=Wb8 (S++(g++[.cells [.int .i64 tm,.pl 1 (Ya n.men)]])) d l a3 c3 nm (hSd _) ha3 hl (by omega)
  have htl:n.times≤(nm:Int):=by have:=ok.le;omega
  have ht1:1≤tm:=by have:=ok.t1;omega
  obtain ⟨jo,rfl⟩:∃ jo,o2=some jo:=by
   cases o2 with
   | none =>
    have h0:R=[]:=by simpa [Ya] using hA2.val.2
    rw [h0] at hRl
    simp at hRl
    omega
   | some jo=>exact ⟨jo,rfl⟩
  obtain ⟨hw,hgj⟩:=hA2.val
  have hil:(Ya R).length=nm:=by simp [Ya,hRl]
  have hil2:(Ya n.men).length=nm:=by simp [Ya,hnm]
  rw [Vy (fun y hy=>by obtain ⟨z,_,rfl⟩:=List.mem_map.1 hy;rfl)] at hgj
  rw [hil] at hw
  subst hw
  rw [hS]
  simp [-Xa,hl2,g0,g5,g12,g13,g14,hlt,hlt',hn,hnt]
  refine Xp [4] [(5,0),(6,0),(9,0)] mixed (by kernel_rfl) (by kernel_rfl) ?_
  simp [-Xa,hl2,g0,g5,g12,g13,g14,hnc,hil2]
  refine Zab hrg ?_
  rw [hSs]
  obtain ⟨S4,hS4⟩:∃ S4,σ.set d (Yc l a4 c4)++[AObj.cells [.int .i64 r.men,.pl 2 (r.ntcs.map Ub)]]=S4:=⟨_,rfl⟩
  have hS4l:S4.length=σ.length+1:=by rw [← hS4];simp
  rw [hS4]
  have hlen0:(S++(g++[AObj.cells [.int .i64 tm,.pl 1 (Ya n.men)]])).length=σ.length+1+(g.length+1):=by simp [hSl]
  have hnc4:∀ X:Za,(S4++(g++.cells [.int .i64 tm,.pl 1 (Ya n.men)]::X))[S.length+g.length]? = some (.cells [.int .i64 tm,.pl 1 (Ya n.men)]):=fun X=>by rw [Qzr (by omega),show S.length+g.length - S4.length=g.length by omega];simp
  have htl':(tm:Int)≤(nm:Int):=by omega
  have htl2:tm≤nm:=by omega
  have ht0:¬ 0=tm:=by omega
  rw [hlen0]
  simp [-Xa,hl2,g0,g5,g12,g13,g14,hnc,hnc4,hil2,htl',htl2,ht0]
  obtain ⟨T,hT⟩:∃ T,S4++(g++AObj.cells [.int .i64 tm,.pl 1 (Ya n.men)]::g2)=T:=⟨_,rfl⟩
  have hTl:T.length=σ.length+1+(g.length+(g2.length+1)):=by rw [← hT];simp [hS4l]
  have hTq:∀ X:Za,(T++X)[S.length+g.length]? = some (.cells [.int .i64 tm,.pl 1 (Ya n.men)]):=fun X=>by
   have:=hnc4 (g2++X)
   rw [← hT]
   simpa using this
  have hTr:∀ X:Za,(T++X)[σ.length+1+(g.length+1)+jo]? = some (.cells (Ya R)):=fun X=>by
   have hjl:=(Qzs.1 hgj).1
   rw [Qzl (by omega),← hT,Qzr (by omega),Qzr (by omega),show σ.length+1+(g.length+1)+jo - S4.length - g.length=jo+1 by omega]
   simpa using hgj
  rw [hT]
  refine Wd (DlB r d T v (S.length+g.length) (σ.length+1+(g.length+1)+jo) i tm R n.men) (fun env _=>match tg env.t 27 with | .int _ j=>tm - j.toNat | _=>0) ⟨_,0,.nils,[],[],none,rfl,by simp [hl2],by simp [hl2,g0],by simp [hl2,g5],by simp [hl2],by simp [hl2],by simp [hl2,g12],by simp [hl2,g13],by simp [hl2,g14],by simp [hl2],by simp [hl2],by simp [hl2],by omega,by simp,by simpa [Ya] using Acc.nil _ _ _,by simp⟩ ?_
  clear hl2 g0 g5 g12 g13 g14 u
  rintro env _ ⟨u,j,w,P,g3,o3,rfl,hl2,g0,g5,g7,g8,g12,g13,g14,g25,g26,g27,hj,rfl,hAw,hP⟩
  have hPl:P.length=j:=by rw [hP];simp;omega
  rcases Qzn j tm with hlt2 | hge2
  ·have hlt2':(j:Int)<(tm:Int):=by omega
   have hx2:=w64 (n:=(j:Int)+1) (by omega) (by omega)
   have hjR:j<R.length:=by omega
   obtain ⟨x,hxR⟩:∃ x:Nat,R[j]=x:=⟨R[j].toNat,by have:=hRm _ (List.getElem_mem hjR);omega⟩
   have hxm:x<nm:=by have:=hRm _ (List.getElem_mem hjR);omega
   have hxm':(x:Int)<(nm:Int):=by omega
   have hjI:j<(Ya R).length:=by omega
   have hjG:(Ya R)[j]'hjI=.int .i64 x:=by simp [Ya,hxR]
   have hjl1:j+1≤(Ya R).length:=by omega
   obtain ⟨y,hy⟩:∃ y,n.men[x]'(by omega)=y:=⟨_,rfl⟩
   have hxI:x<(Ya n.men).length:=by omega
   have hxG:(Ya n.men)[x]'hxI=.int .i64 y:=by simp [Ya,hy]
   have hxG2:(Ya n.men)[x]? = some (.int .i64 y):=by rw [Qze hxI,hxG]
   obtain ⟨w',g4,jn,he,hAw',hw',_,_⟩:=Ua9 hAw y (by omega)
   simp [-Xa,hl2,g0,g5,g7,g8,g12,g13,g14,g25,g26,g27,hlt2,hlt2',hTr,hjI,hjG,hjl1,hTq,hil2,hxm',hxI,hxG,hxG2,hx2]
   rw [he,Wl]
   exact ⟨⟨_,j+1,w',P++[y],g4,some jn,rfl,by simp [hl2],by simp [hl2,g0],by simp [hl2,g5],by simp [hl2,g7],by simp [hl2],by simp [hl2,g12],by simp [hl2,g13],by simp [hl2,g14],by simp [hl2,g25],by simp [hl2,g26],by simp [hl2],hlt2,rfl,hAw',by
    rw [Qzt hjR,List.map_append,← hP,hxR]
    simp [List.getD_eq_getElem?_getD,Qze (show x<n.men.length by omega),hy]⟩,by omega⟩
  ·obtain rfl:j=tm:=by omega
   obtain ⟨jw,rfl⟩:∃ jw,o3=some jw:=by
    cases o3 with
    | none =>
     have h0:P=[]:=by simpa [Ya] using hAw.val.2
     rw [h0] at hPl
     simp at hPl
     omega
    | some jw=>exact ⟨jw,rfl⟩
   obtain ⟨hw,hgw⟩:=hAw.val
   have hiP:(Ya P).length=j:=by simp [Ya,hPl]
   rw [Vy (fun y hy=>by obtain ⟨z,_,rfl⟩:=List.mem_map.1 hy;rfl)] at hgw
   rw [hiP] at hw
   subst hw
   have hjwl:=(Qzs.1 hgw).1
   have hrow:(T++g3)[T.length+jw]? = some (.cells (Ya P++[])):=by rw [Qzr (by omega),Nat.add_sub_cancel_left,hgw,List.append_nil]
   have hsort:=Wbc (T++g3) (T.length+jw) P [] hrow (by omega)
   rw [hPl] at hsort
   simp [-Xa,hl2,g0,g5,g7,g8,g12,g13,g14,g25,g26,g27]
   refine StA.of (hsort.mono ?_)
   rintro _ _ ⟨m,hmp,hms,rfl⟩
   have hml:m.length=j:=by rw [hmp.length_eq,hPl]
   have hset:(T++g3).set (T.length+jw) (.cells (Ya m++[]))=T++g3.set jw (.cells (Ya m++[])):=by
    rw [List.set_append_right _ _ (by omega),Nat.add_sub_cancel_left]
   rw [hset]
   obtain ⟨g4,hg4⟩:∃ g4,g3.set jw (.cells (Ya m++[]))=g4:=⟨_,rfl⟩
   have hg4l:g4.length=g3.length:=by rw [← hg4];simp
   rw [hg4]
   have hTg:∀ X:Za,T++X=S4++(g++(AObj.cells [.int .i64 j,.pl 1 (Ya n.men)]::(g2++X))):=fun X=>by rw [← hT];simp
   obtain ⟨v',g',jn,he,hA',hv',hkeep,hjn⟩:=appW ((hA.base (σ':=S4) (by rw [hS4l];simp)).more (AObj.cells [.int .i64 j,.pl 1 (Ya n.men)]::(g2++g4))) (m,.arr 1 (T.length+jw) 0 j) ⟨rfl,rfl⟩ (by omega)
   simp [-Xa,hl2,g0,g5,g7,g8,g12,g13,g14,g25,g26,g27,hx]
   have e1:T.length+g4.length=S4.length+(g++AObj.cells [.int .i64 j,.pl 1 (Ya n.men)]::(g2++g4)).length:=by simp;omega
   have e2:T++(g4++[AObj.cells [AV.arr 1 (T.length+jw) 0 j]])=S4++((g++AObj.cells [.int .i64 j,.pl 1 (Ya n.men)]::(g2++g4))++[AObj.cells [AV.arr 1 (T.length+jw) 0 j]]):=by rw [hTg];simp
   rw [e1,e2,he,Wl]
   have hol:∀ j,o=some j→j<g.length:=fun j e=>by
    have:=hA.val
    rw [e] at this
    exact (Qzs.1 this.2).1
   have hjo':some jn=o∨∀ q,some jn=some q→(g++AObj.cells [.int .i64 j,.pl 1 (Ya n.men)]::(g2++g4)).length≤q:=by
    rcases hjn with h1 | h1
    ·exact .inl h1
    ·exact .inr fun q e=>by cases e;exact h1
   have hrowN:RowAt (σ.length+1) g' (some jn) (.arr 1 (T.length+jw) 0 j) m:=by
    refine ⟨g.length+1+g2.length+jw,[],by rw [hml,show T.length+jw=σ.length+1+(g.length+1+g2.length+jw) by omega],fun e=>?_,?_⟩
    ·rcases hjn with h1 | h1
     ·have:=hol _ h1.symm;have:=Option.some.inj e;omega
     ·have:=Option.some.inj e;simp at h1;omega
    ·rw [hkeep _ (fun e=>by have:=hol _ e.symm;omega) (by simp;omega),Qzr (by omega),show g.length+1+g2.length+jw - g.length=(g2.length+jw)+1 by omega,List.getElem?_cons_succ,Qzr (by omega),Nat.add_sub_cancel_left,← hg4]
     simp [hjwl]
   have hinj:∀ a∈R.take j,∀ b∈R.take j,n.men.getD a.toNat 0=n.men.getD b.toNat 0→a=b:=fun a ha b hb e=>by
    have qa:=hRm a (List.mem_of_mem_take ha)
    have qb:=hRm b (List.mem_of_mem_take hb)
    have la:a.toNat<n.men.length:=by omega
    have lb:b.toNat<n.men.length:=by omega
    rw [List.getD_eq_getElem?_getD,List.getD_eq_getElem?_getD,Qze la,Qze lb] at e
    simp only [Option.getD_some] at e
    rcases Nat.lt_trichotomy a.toNat b.toNat with h1 | h1 | h1
    ·have:=List.pairwise_iff_getElem.1 ok.srt _ _ la lb h1;omega
    ·omega
    ·have:=List.pairwise_iff_getElem.1 ok.srt _ _ lb la h1;omega
   have hPn:P.Nodup:=by rw [hP];exact Zaj (hRn.sublist (List.take_sublist _ _)) hinj
   have hPm:∀ x∈P,x∈n.men:=fun x hx=>by
    rw [hP] at hx
    obtain ⟨a,ha,rfl⟩:=List.mem_map.1 hx
    have qa:=hRm a (List.mem_of_mem_take ha)
    rw [List.getD_eq_getElem?_getD,Qze (show a.toNat<n.men.length by omega)]
    exact List.getElem_mem _
   have hmr:m.Pairwise (·<·):=Xb7 hms (hmp.nodup_iff.2 hPn)
   have hv2:tg (ts u 5 v') 5=v':=by simp [hl2]
   exact ⟨⟨_,i+1,v',L++[(m,.arr 1 (T.length+jw) 0 j)],g',some jn,a4,c4,rfl,by simp [hl2],by simp [hl2,g0],by simp [hl2],by simp [hl2,g12],by simp [hl2,g13],by simp [hl2],hlt,by simp [hLl],by rw [← hS4],ha4,hA'.base (by simp [hS4l]),fun p hp=>by
    rcases List.mem_append.1 hp with hp | hp
    ·exact ((hL p hp).more _).kept hkeep hjo'
    ·rw [List.mem_singleton.1 hp]
     exact hrowN,fun q p hq=>by
    rcases Qzn q L.length with h1 | h1
    ·rw [Qzl h1] at hq
     exact hD q p hq
    ·have h2:=(Qzs.1 hq).1
     simp at h2
     obtain rfl:q=L.length:=by omega
     rw [Qzr (Nat.le_refl _),Nat.sub_self] at hq
     obtain rfl:=Option.some.inj hq
     intro n' hn'
     rw [hLl,Qze hlt,hn] at hn'
     obtain rfl:=Option.some.inj hn'
     exact ⟨by rw [htm,hml],hmr,fun x hx=>hPm x (hmp.mem_iff.1 hx)⟩⟩,by omega⟩
 ·obtain rfl:i=r.ntcs.length:=by omega
  rw [hS]
  simp [-Xa,hl2,g0,g5,g12,g13,g14]
  have hz:=(hA.base (σ':=S) (by simp [hSl])).fzK (X:=[]) (n:=σ.length) (L':=(L.map Prod.fst).map fun x=>.pl 1 (Ya x)) (by omega) (by omega) (by simp) fun i x y hx hy=>by
   rw [Qzp,Qzm] at hx
   obtain ⟨p,hp,rfl⟩:=hx
   rw [Qzp,Qzp,hp] at hy
   obtain rfl:=Option.some.inj hy
   have hrw:=hL p (Qzg hp)
   obtain ⟨pp,rest,hpe,_⟩:=id hrw
   refine ⟨rfl,fun z hz=>by simp [AV.cells] at hz;rw [hz];rfl,fun j a b ha hb=>?_⟩
   rw [hpe] at ha
   match j,ha,hb with
   | 0,ha,hb =>
    simp [AV.cells] at ha hb
    subst hb
    rw [← ha,← hpe]
    exact hrw.fz (by omega) fun p x hp=>by
     rw [Qzr (by omega),List.append_nil,show σ.length+1+p - S.length=p by omega]
     exact hp
   | j+1,ha,hb=>simp [AV.cells] at ha
  refine ⟨σ.set d (Yc l a3 c3),AObj.cells [.int .i64 r.men,.pl 2 (r.ntcs.map Ub)]::g,by rw [← hS];simp,by simp,Zc9 hd,Uj (L.map Prod.fst),?_,L.map Prod.fst,rfl,⟨by simp [hLl],fun j l n hj hn=>?_⟩,a3,ha3,c3,rfl⟩
  ·unfold Uj
   simpa using hz
  ·rw [Qzp,Qzm] at hj
   obtain ⟨p,hp,rfl⟩:=hj
   exact hD j p hp n hn
end Ab

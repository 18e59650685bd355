/-
  Texts packed for a claim.
-/
import Derived.Test.YtdifgaapdnbliaaGreatDoorS00
import Derived.Test.YtdifgaapdnbliaaGreatDoorS28
import Derived.Test.YtdifgaapdnbliaaGreatDoorS34
import Derived.Test.YtdifgaapdnbliaaGreatDoorS36
import Derived.Test.YtdifgaapdnbliaaGreatDoorS31
set_option linter.all false
namespace Ab
open Go Go.RowKit Go.Proofs
attribute [local irreducible] aws awp aw1 Og Om Oc Oa Ogd Ov Ot awd Ub awh Xc Ogh Ohd awl Ogl Ohl awv Ogv Ohv Zc Wc QFn Zd QRo QBe ACode AYield
def Zr (a b:List Oyez.Rec):Int:=if Oyez.check a≠0 then Oyez.check a else Oyez.check b
def Um (n:Nat) (a b:List Oyez.Rec):Nat→Za
 | 0=>[]
 | 1=>Vg n a++[.cells [.ptr n 0],.cells [.ptr n 0]]
 | _=>Vg n a++[.cells [.ptr n 0],.dead]++Vg (n+4) b++[.cells [.ptr (n+4) 0],.cells [.ptr n 0,.ptr (n+4) 0]]
def Uz (n:Nat):Nat→AV
 | 0=>.nils
 | 1=>.arr 1 (n+3) 0 1
 | _=>.arr 1 (n+7) 0 2
set_option maxHeartbeats 4000000 in
theorem Uc1 {σ:Za} {q:Nat} (a b:List Oyez.Rec) (hq:σ[q]? = some (.cells [Xa a,Xa b])) (ha:Few a) (hb:Few b) (hl:a.length≤2^40∧b.length≤2^40) :
  ACalls Tryz.prog 99 [.arr 1 q 0 2] σ fun v σ'=>(Zr a b≠0∧v=.tup [.nils,.int .i64 (Zr a b)]∧∃ g,σ'=σ++g)∨(Zr a b=0∧v=.tup [.arr 1 (σ.length+7) 0 2,.int .i64 0]∧σ'=σ++Um σ.length a b 2):=by
 have hql:=(Qzs.1 hq).1
 have hqa:∀ g:Za,(σ++g)[q]? = _:=fun g=>Vf hq
 refine Ua Tryz.func99 rfl (Wa Tryz.func99 (by decide) rfl) ?_
 simp [Tryz.ntmps99]
 refine Yc (fun env σ'=>∃ (u:List AV) (i:Nat),env={ t:=u }∧u.length=26∧tg u 4=Uz σ.length i∧tg u 8=.arr 1 q 0 2∧tg u 9=.int .i64 2∧tg u 10=.int .i64 i∧σ'=σ++Um σ.length a b i∧i≤2∧(0<i→Oyez.check a=0)∧(1<i→Oyez.check b=0))
  (fun env _=>match tg env.t 10 with | .int _ i=>2 - i.toNat | _=>0) ⟨_,0,rfl,by simp,by simp [Uz],by simp,by simp,by simp,by simp [Um],by omega,by omega,by omega⟩ ?_
 rintro env _ ⟨u,i,rfl,hl',g4,g8,g9,g10,rfl,hi,h0,h1⟩
 have ax:∀ n,(Vg n a).length=2∧(Vg n b).length=2:=fun n=>⟨rfl,rfl⟩
 have w1:=w64 (n:=(1:Int)) (by omega) (by omega)
 have w2:=w64 (n:=(2:Int)) (by omega) (by omega)
 match i,hi with
 | 0,_ =>
  simp [hl',g4,g8,g9,g10,hqa,Uz,Um,hq,w1,w2]
  refine (Vy a ha).use ?_
  by_cases he:Oyez.check a=0
  ·simp [hl',g4,g8,g9,g10,hqa,Uz,Um,hq,w1,w2,he]
   have hs:=(Oyez.check_zero he).sorted
   refine StA.of ((Ual a hs hl.1 _).mono ?_)
   rintro _ _ ⟨rfl,rfl⟩
   simp [hl',g4,g8,g9,g10,hqa,Uz,Um,hq,w1,w2,he,Vg]
   exact ⟨1,rfl,rfl,rfl,by omega,fun h=>by omega⟩
  ·simp [hl',g4,g8,g9,g10,hqa,Uz,Um,hq,w1,w2,he]
   have e:Zr a b=Oyez.check a:=by simp [Zr,he]
   rw [e]
   exact ⟨he,rfl⟩
 | 1,_ =>
  have ha0:=h0 (by omega)
  simp [hl',g4,g8,g9,g10,hqa,Uz,Um,hq,w1,w2,ha0]
  refine (Vy b hb).use ?_
  by_cases he:Oyez.check b=0
  ·simp [hl',g4,g8,g9,g10,hqa,Uz,Um,hq,w1,w2,he,ha0]
   have hs:=(Oyez.check_zero he).sorted
   refine StA.of ((Ual b hs hl.2 _).mono ?_)
   rintro _ _ ⟨rfl,rfl⟩
   simp [hl',g4,g8,g9,g10,hqa,Uz,Um,hq,w1,w2,he,Vg,ha0]
   exact ⟨2,rfl,rfl,rfl,by omega⟩
  ·simp [hl',g4,g8,g9,g10,hqa,Uz,Um,hq,w1,w2,he,ha0]
   have e:Zr a b=Oyez.check b:=by simp [Zr,ha0]
   rw [e]
   exact ⟨he,rfl⟩
 | 2,_ =>
  have ha0:=h0 (by omega)
  have hb0:=h1 (by omega)
  simp [hl',g4,g8,g9,g10,hqa,Uz,Um,hq]
  have e:Zr a b=0:=by simp [Zr,ha0,hb0]
  exact e
theorem MC.own {σ g:Za} {L:List Oyez.Chg} {v:AV} (h:MC σ g L v):OwnC Xm σ.length (σ++g) L v:=by
 obtain ⟨o,vals,h1,h0,hlo,h2,h3⟩:=h.ex
 have hv:=h1.val
 cases o with
 | none =>
  obtain ⟨rfl,rfl⟩:=hv
  exact ⟨.inl ⟨List.eq_nil_of_length_eq_zero h2.symm,rfl⟩⟩
 | some r =>
  obtain ⟨rfl,hg⟩:=hv
  have hgr:(σ++g)[σ.length+r]? = some (.cells (vals.flatMap AV.cells)):=by rw [Qzr (by omega),Nat.add_sub_cancel_left];exact hg
  have hone:∀ x∈vals,x.cells.length=6:=fun x hx=>(h1.len x hx).1
  refine ⟨.inr ⟨σ.length+r,by omega,by rw [h2],_,hgr,by rw [Wae _ hone,h2],fun i c hc=>?_⟩⟩
  obtain ⟨w1,w2,a,b,d⟩:=h3 i c hc
  refine ⟨w1,w2,?_,fun w ws hw=>?_⟩
  ·apply List.ext_getElem?
   intro j
   rcases Qzn j 6 with hj | hj
   ·rw [List.getElem?_take_of_lt hj,List.getElem?_drop,flat_get (k:=6) _ hone (by decide),show (i*6+j) / 6=i by omega,show (i*6+j) % 6=j by omega,a]
    rfl
   ·rw [List.getElem?_eq_none (by simp;omega),List.getElem?_eq_none (by simpa using hj)]
  ·have key:∀ {w:AV} {ws:List (List UInt8)},RW σ.length g (some r) w ws→(ws=[]∧w=.pl 1 [])∨∃ (q:Nat) (xs:List AV),σ.length≤q∧q≠σ.length+r∧w=.arr 1 q 0 ws.length∧(σ++g)[q]? = some (.cells xs)∧Xm ws xs:=by
    intro w ws hw
    rcases hw with hw | ⟨j,a1,a2,a3⟩
    ·exact .inl hw
    ·have hne:r≠j:=fun e=>a3 (by rw [e])
     exact .inr ⟨σ.length+j,strs ws,by omega,by omega,a1,by rw [Qzr (by omega),Nat.add_sub_cancel_left];exact a2,rfl⟩
   rcases hw with hw | hw
   ·obtain ⟨rfl,rfl⟩:=Prod.mk.inj hw;exact key b
   ·obtain ⟨rfl,rfl⟩:=Prod.mk.inj hw;exact key d
theorem OwnC.weaken {X:List (List UInt8)→List AV→Prop} {lo lo':Nat} {τ:Za} {L:List Oyez.Chg} {v:AV} (h:OwnC X lo τ L v) (hl:lo'≤lo):OwnC X lo' τ L v:=by
 rcases h.row with h | ⟨r,h1,h2,cs,h3,h4,h5⟩
 ·exact ⟨.inl h⟩
 ·refine ⟨.inr ⟨r,by omega,h2,cs,h3,h4,fun i c hc=>?_⟩⟩
  obtain ⟨w1,w2,a,b⟩:=h5 i c hc
  refine ⟨w1,w2,a,fun w ws hw=>?_⟩
  rcases b w ws hw with b | ⟨q,xs,b1,b2,b3⟩
  ·exact .inl b
  ·exact .inr ⟨q,xs,by omega,b2,b3⟩
def Yy (a b:List Oyez.Rec):List Oyez.Chg × Int:=if Zr a b≠0 then ([],Zr a b) else (Oyez.diff a b,0)
set_option maxHeartbeats 8000000 in
theorem Vcy (a b:List Oyez.Rec) (ha:Few a) (hb:Few b) (hl:a.length≤2^38∧b.length≤2^38) (σ:Za) :
  ACalls Tryz.prog 68 [Xa a,Xa b] σ fun v σ'=>∃ v1,v=.tup [v1,.int .i64 (Yy a b).2]∧(∃ g,σ'=σ++g)∧OwnC Xm σ.length σ' (Yy a b).1 v1:=by
 obtain ⟨R,hR⟩:∃ R,Yy a b=R:=⟨_,rfl⟩
 rw [hR]
 unfold Yy at hR
 refine Ua Tryz.func68 rfl (Wa Tryz.func68 (by decide) rfl) ?_
 simp [-Ya,Tryz.ntmps68]
 refine StA.of ((Uc1 (σ:=σ++[.cells [Xa a,Xa b]]) (q:=σ.length) a b (by simp) ha hb (by omega)).mono ?_)
 rintro v σ' (⟨he,rfl,g,rfl⟩ | ⟨he,rfl,rfl⟩)
 ·rw [if_pos he] at hR
  subst hR
  simp [-Ya,he]
  exact OwnC.mk (.inl ⟨rfl,rfl⟩)
 ·rw [if_neg (by simp [he])] at hR
  have hfew:∀ (f:List Oyez.Rec) (p:Oyez.Place),Few f→(Xb (Oyez.getIn f p)).length≤2^40:=by
   intro f p hf
   unfold Xb Oyez.getIn
   cases h:f.find? (fun r=>decide (r.place=p)) with
   | none=>simp
   | some r =>
    have:=(hf r (List.mem_of_find?_eq_some h)).2
    simp only [Option.map_some,Option.getD_some]
    omega
  obtain ⟨ps,hps⟩:∃ ps,Oyez.diffPl a b=ps:=⟨_,rfl⟩
  have hpl:ps.length≤2^40:=by
   have h1:=Oyez.placesOf_len ((a++b).map Oyez.Rec.place)
   have h2:(Oyez.placesOf ((a++b).map Oyez.Rec.place)).length=ps.length:=by rw [← hps];rfl
   rw [List.length_map,List.length_append] at h1
   omega
  have hdd:Oyez.diff a b=ps.filterMap (Oyez.diffAt a b):=by rw [Oyez.diff_def,hps]
  have hpr:Oyez.placesOf ((a++b).map Oyez.Rec.place)=ps:=hps
  obtain ⟨σ1,hσ1⟩:∃ s,s=σ++(.cells [Xa a,Xa b]::Um (σ.length+1) a b 2):=⟨_,rfl⟩
  have hs1:σ1.length=σ.length+9:=by rw [hσ1];simp [Um,Vg]
  have D0:DeskAt σ1 (.ptr (σ.length+1) 0) a:=⟨σ.length+1,σ.length+2,rfl,by rw [hσ1];simp [Um,Vg],by rw [hσ1];simp [Um,Vg]⟩
  have D1:DeskAt σ1 (.ptr (σ.length+5) 0) b:=⟨σ.length+5,σ.length+6,rfl,by rw [hσ1];simp [Um,Vg],by rw [hσ1];simp [Um,Vg]⟩
  have hq1:σ1[σ.length+8]? = some (.cells [.ptr (σ.length+1) 0,.ptr (σ.length+5) 0]):=by rw [hσ1];simp [Um,Vg]
  have hq1g:∀ X:Za,(σ1++X)[σ.length+8]? = some (.cells [.ptr (σ.length+1) 0,.ptr (σ.length+5) 0]):=fun X=>Vf hq1
  have key:=Ubv (fs:=[a,b]) (v:=.arr 1 (σ.length+8) 0 2) (σ:=σ1) ⟨σ.length+8,_,rfl,hq1,rfl,fun i f d hf hd=>by
   match i,hf,hd with
   | 0,hf,hd=>simp at hf hd;subst hf;subst hd;exact D0
   | 1,hf,hd=>simp at hf hd;subst hf;subst hd;exact D1
   | i+2,hf,_=>simp at hf⟩ (by simp;omega) (by simp)
  have e2:[a,b].flatten=a++b:=by simp
  rw [e2,hpr,hσ1] at key
  simp [-Ya,he,Nat.add_assoc]
  refine StA.of (key.mono ?_)
  rintro _ _ ⟨rfl,rfl⟩
  simp [-Ya]
  refine Yc (fun env σ'=>∃ (u:List AV) (i:Nat) (v:AV) (g:Za),env={ t:=u }∧u.length=53∧tg u 6=.arr 1 (σ.length+8) 0 2∧tg u 8=v∧tg u 24=.pl 2 (ps.map Xd)∧tg u 25=.int .i64 ps.length∧tg u 26=.int .i64 i∧σ'=σ1++g∧i≤ps.length∧MC σ1 g ((ps.take i).filterMap (Oyez.diffAt a b)) v)
   (fun env _=>match tg env.t 26 with | .int _ i=>ps.length - i.toNat | _=>0) ⟨_,0,.nils,[],rfl,by simp,by simp,by simp,by simp,by simp,by simp,by rw [hσ1];simp,by omega,by simpa using MC.nil _ _⟩ ?_
  rintro env _ ⟨u,i,v,g,rfl,hl2,g6,g8,g24,g25,g26,rfl,hi,hM⟩
  rcases Qzn i ps.length with hlt | hge
  ·have hlt':(i:Int)<(ps.length:Int):=by omega
   have hx:=w64 (n:=(i:Int)+1) (by omega) (by omega)
   obtain ⟨p,hpe⟩:∃ p,ps[i]=p:=⟨_,rfl⟩
   have htk:ps.take (i+1)=ps.take i++[p]:=by rw [Qzt hlt,hpe]
   obtain ⟨x,hxe⟩:∃ x,Oyez.getIn a p=x:=⟨_,rfl⟩
   obtain ⟨y,hye⟩:∃ x,Oyez.getIn b p=x:=⟨_,rfl⟩
   have hlx:=hfew a p ha
   have hly:=hfew b p hb
   rw [hxe] at hlx
   rw [hye] at hly
   simp [-Ya,hl2,g6,g8,g24,g25,g26,hlt',hlt,hpe]
   refine Va0 mixed [10,11] [12,13] (fun i=>[AV.arr 1 (σ.length+8) 0 2,.ptr (σ.length+8) 0,.ptr (σ.length+1) 0,Xd p,Ue x,.arr 1 (σ.length+8) 0 2,.ptr (σ.length+8) 1,.ptr (σ.length+5) 0,Xd p,Ue y].getD i .any) (fun _=>[.bool false,.nils]) (fun a=>if a=10 then [.bool x.isSome,Zb (Xb x)] else [.bool y.isSome,Zb (Xb y)]) (by kernel_rfl)
    (LayA.of (n:=53) rfl rfl rfl (by kernel_rfl) (by simp [hl2]) ?_ (by kernel_rfl) ?_ (by kernel_rfl) ?_ ?_ ?_) ?_
   ·intro a ha
    simp at ha
    rcases ha with rfl | rfl<;>simp [Uae]
   ·intro p' a' u' ha hu o ty d x' ho hop τ q hq
    match p',ha,hu with
    | 0,ha,hu =>
     simp at ha hu
     subst ha;subst hu
     simp at ho
     subst ho
     simp at hop
     obtain ⟨rfl,rfl,rfl⟩:=hop
     simp [Yb,tr,hq,hl2,Ue]
    | 1,ha,hu =>
     simp at ha hu
     subst ha;subst hu
     simp at ho
     subst ho
     simp at hop
     obtain ⟨rfl,rfl,rfl⟩:=hop
     simp [Yb,tr,hq,hl2,Ue]
    | p'+2,ha,_=>simp at ha
   ·intro i' o ho hA hU g'
    have hi':i'<14:=(Qzs.1 ho).1
    simp at hA hU
    have hc:i'=0∨i'=1∨i'=2∨i'=3∨i'=4∨i'=5∨i'=6∨i'=7∨i'=8∨i'=9:=by omega
    rcases hc with rfl | rfl | rfl | rfl | rfl | rfl | rfl | rfl | rfl | rfl<;>(
     simp at ho
     subst ho
     simp [Yb,tr,hl2,g6,hq1g]
     try (refine StA.of ((Xal (D0.more _) p).mono ?_)
          rintro _ _ ⟨rfl,rfl⟩
          rw [hxe]
          simp [Ue])
     try (refine StA.of ((Xal (D1.more _) p).mono ?_)
          rintro _ _ ⟨rfl,rfl⟩
          rw [hye]
          simp [Ue]))
   ·intro j hj
    have hall:∀ v∈[AV.arr 1 (σ.length+8) 0 2,.ptr (σ.length+8) 0,.ptr (σ.length+1) 0,Xd p,Ue x,.arr 1 (σ.length+8) 0 2,.ptr (σ.length+8) 1,.ptr (σ.length+5) 0,Xd p,Ue y],Fz (σ1++(g++[AObj.cells [.int .i64 p.kind,.int .i64 p.number]])).length [] v v:=by
     have hpl:∀ n,Fz n [] (Xd p) (Xd p):=fun n=>Fz.agg2 (.int _ _) (.int _ _)
     have hst:∀ n w,Fz n [] (Ue w) (Ue w):=fun n w=>Fz.agg2 (.bool _) ((Xr _ _ _).2 trivial)
     intro v hv
     simp only [List.mem_cons,List.not_mem_nil,or_false] at hv
     rcases hv with rfl | rfl | rfl | rfl | rfl | rfl | rfl | rfl | rfl | rfl
     ·exact .keep _ _ _ _ (by simp;omega)
     ·exact .ptr _ _ (by simp;omega)
     ·exact .ptr _ _ (by simp;omega)
     ·exact hpl _
     ·exact hst _ _
     ·exact .keep _ _ _ _ (by simp;omega)
     ·exact .ptr _ _ (by simp;omega)
     ·exact .ptr _ _ (by simp;omega)
     ·exact hpl _
     ·exact hst _ _
    rw [List.getD_eq_getElem?_getD]
    cases hv:([AV.arr 1 (σ.length+8) 0 2,.ptr (σ.length+8) 0,.ptr (σ.length+1) 0,Xd p,Ue x,.arr 1 (σ.length+8) 0 2,.ptr (σ.length+8) 1,.ptr (σ.length+5) 0,Xd p,Ue y])[j]? with
    | none=>exact .any _
    | some v=>exact hall v (Qzg hv)
   ·intro a' ha2 y' hy
    have hst:∀ n (w:Oyez.St),∀ y'∈[AV.bool w.isSome,Zb (Xb w)],Fz n [] y' y':=fun n w y' hy=>by
     simp only [List.mem_cons,List.not_mem_nil,or_false] at hy
     rcases hy with rfl | rfl
     ·exact .bool _
     ·exact (Xr _ _ _).2 trivial
    have hy2:y'∈(if a'=10 then [AV.bool x.isSome,Zb (Xb x)] else [.bool y.isSome,Zb (Xb y)]):=hy
    split at hy2
    ·exact hst _ x y' hy2
    ·exact hst _ y y' hy2
   ·have hix0:List.idxOf 10 [10,11]=0:=by decide
    have hix1:List.idxOf 11 [10,11]=1:=by decide
    have hsub:((ps.take i).filterMap (Oyez.diffAt a b)).length≤2^40:=Nat.le_trans (List.length_filterMap_le _ _) (by simp;omega)
    have hda:Oyez.diffAt a b p=if x=y then none else some (Oyez.chg p x y):=by unfold Oyez.diffAt;rw [hxe,hye]
    have hfm:(ps.take (i+1)).filterMap (Oyez.diffAt a b)=(ps.take i).filterMap (Oyez.diffAt a b)++(Oyez.diffAt a b p).toList:=by rw [htk,Oyez.filterMap_snoc']
    simp [-Ya,Yb,tr,rrA,hl2,hix0,hix1,Nat.add_assoc]
    refine (Zad x y hlx).use ?_
    by_cases hxy:x=y
    ·rw [hda,if_pos hxy,Option.toList_none,List.append_nil] at hfm
     simp [-Ya,hl2,g6,g8,g24,g25,g26,hlt,hpe,hx,hxy]
     exact ⟨⟨i+1,by simp,by omega,by rw [hfm];exact hM.more _⟩,by omega⟩
    ·rw [hda,if_neg hxy] at hfm
     obtain ⟨v',g',he2,hM',_⟩:=MC.put0 (hM.more [AObj.cells [.int .i64 p.kind,.int .i64 p.number],.cells [.bool x.isSome,Zb (Xb x)],.cells [.bool y.isSome,Zb (Xb y)]]) hsub (by simp) (Oyez.chg p x y)
     simp [-Ya,Oyez.chg,Xb,Nat.add_assoc] at he2
     simp [-Ya,hl2,g6,g8,g24,g25,g26,hlt,hpe,hx,hxy,Nat.add_assoc]
     refine StA.of ((Wbl p x y hlx hly _).mono ?_)
     rintro _ _ ⟨rfl,rfl⟩
     have hc1:=Yas
     simp [-Ya,-AV.one,Vx,Xw,Yas,hl2,g6,g8,g24,g25,g26,hlt,hpe,hx,hxy,Xb,he2,Nat.add_assoc]
     exact ⟨⟨i+1,by simp,by omega,by rw [hfm];exact hM'⟩,by omega⟩
  ·have hge':¬ (i:Int)<(ps.length:Int):=by omega
   rw [List.take_of_length_le hge,← hdd] at hM
   subst hR
   simp [-Ya,hl2,g6,g8,g24,g25,g26,hge']
   refine ⟨⟨_,by rw [hσ1,List.append_assoc]⟩,?_⟩
   exact hM.own.weaken (by omega)
end Ab
namespace Ab
open Go Go.RowKit Go.Proofs
attribute [local irreducible] aws awp aw1 Og Om Oc Oa Ogd Ov Ot awd Ub awh Xc Ogh Ohd awl Ogl Ohl awv Ogv Ohv Zc Wc QFn Zd QRo QBe ACode AYield
theorem Ycu {n:Nat} {τ:Za} {q:Nat} (ws:List (List UInt8)) (hn:n≤q) (h:τ[q]? = some (.cells (strs ws))):Fz n τ (.arr 1 q 0 ws.length) (Zb ws):=by
 have hl:ws.length=(strs ws).length:=by simp [strs]
 rw [hl]
 refine Fz.arr 1 q 0 (strs ws) (strs ws) (fun i _=>(strs ws).getD i .any) hn h (fun i x hx=>?_) (fun i x hx j y hy=>?_)
 ·have hx':=hx
  simp only [strs,Qzp,Qzm] at hx
  obtain ⟨s,hs,rfl⟩:=hx
  refine ⟨rfl,fun j y hy=>?_⟩
  match j,hy with
  | 0,hy =>
   simp [AV.cells] at hy;subst hy
   refine ⟨rfl,?_⟩
   rw [Nat.zero_add,Nat.mul_one,Nat.add_zero,List.getD_eq_getElem?_getD,hx']
   rfl
  | j+1,hy=>simp [AV.cells] at hy
 ·have hx':=hx
  simp only [strs,Qzp,Qzm] at hx
  obtain ⟨s,hs,rfl⟩:=hx
  match j,hy with
  | 0,hy =>
   simp [AV.cells] at hy;subst hy
   rw [List.getD_eq_getElem?_getD,hx']
   exact .str _
  | j+1,hy=>simp [AV.cells] at hy
theorem OwnC.fzN {n:Nat} {τ:Za} {lo:Nat} {L:List Oyez.Chg} {v:AV} (hn:n≤lo) (h:OwnC Xm lo τ L v):Fz n τ v (Wb L):=by
 rcases h.row with ⟨rfl,rfl⟩ | ⟨r,hlr,rfl,cs,h3,h4,h5⟩
 ·exact .nils_pl 6
 ·have hl:L.length=(L.map Ze).length:=by simp
  rw [hl]
  have hcell:∀ (i:Nat) (c:Oyez.Chg),L[i]? = some c→∃ w1 w2,(∀ j,j<6→cs[i*6+j]? = [AV.int .i64 c.kind,.int .i64 c.number,.bool c.had,.bool c.has,w1,w2][j]?)∧Fz n τ w1 (Zb c.old)∧Fz n τ w2 (Zb c.new):=by
   intro i c hc
   obtain ⟨w1,w2,g1,g2⟩:=h5 i c hc
   have key:∀ w ws,(w,ws)=(w1,c.old)∨(w,ws)=(w2,c.new)→Fz n τ w (Zb ws):=by
    intro w ws hw
    rcases g2 w ws hw with ⟨a,rfl⟩ | ⟨q,xs,a1,a2,rfl,a4,a5⟩
    ·rw [a];exact .pl0 1 1
    ·rw [show xs=strs ws from a5] at a4
     exact Ycu _ (by omega) a4
   refine ⟨w1,w2,fun j hj=>?_,key _ _ (.inl rfl),key _ _ (.inr rfl)⟩
   rw [← g1,List.getElem?_take_of_lt hj,List.getElem?_drop]
  refine Fz.arr 6 r 0 cs (L.map Ze) (fun i j=>(cs[i*6+j]?).getD .any) (by omega) h3 (fun i x hx=>?_) (fun i x hx j y hy=>?_)
  ·rw [Qzp,Qzm] at hx
   obtain ⟨c,hc,rfl⟩:=hx
   obtain ⟨w1,w2,g1,g2⟩:=hcell i c hc
   refine ⟨rfl,fun j y hy=>?_⟩
   have hj:j<6:=(Qzs.1 hy).1
   refine ⟨?_,?_⟩
   ·match j,hj,hy with
    | 0,_,hy=>simp [AV.cells] at hy;subst hy;rfl
    | 1,_,hy=>simp [AV.cells] at hy;subst hy;rfl
    | 2,_,hy=>simp [AV.cells] at hy;subst hy;rfl
    | 3,_,hy=>simp [AV.cells] at hy;subst hy;rfl
    | 4,_,hy=>simp [AV.cells] at hy;subst hy;rfl
    | 5,_,hy=>simp [AV.cells] at hy;subst hy;rfl
   ·have:=g1 j hj
    rw [Nat.zero_add,this]
    match j,hj with
    | 0,_=>rfl
    | 1,_=>rfl
    | 2,_=>rfl
    | 3,_=>rfl
    | 4,_=>rfl
    | 5,_=>rfl
  ·rw [Qzp,Qzm] at hx
   obtain ⟨c,hc,rfl⟩:=hx
   obtain ⟨w1,w2,g1,g2,g3⟩:=hcell i c hc
   have hj:j<6:=(Qzs.1 hy).1
   rw [g1 j hj]
   match j,hj,hy with
   | 0,_,hy=>simp [AV.cells] at hy;subst hy;exact .int _ _
   | 1,_,hy=>simp [AV.cells] at hy;subst hy;exact .int _ _
   | 2,_,hy=>simp [AV.cells] at hy;subst hy;exact .bool _
   | 3,_,hy=>simp [AV.cells] at hy;subst hy;exact .bool _
   | 4,_,hy=>simp [AV.cells] at hy;subst hy;exact g2
   | 5,_,hy=>simp [AV.cells] at hy;subst hy;exact g3
theorem Acc.push1 {σ g:Za} {k:Nat} {v:AV} {l:List AV} {o:Option Nat} (h:Acc σ g k v l o) {P:Program} {t e:TypeId} {ag:Bool} {x:AV} (he:Xg P t=some e) (hs:tsa P e=some (k,ag)) (hz:tzk P e k=true) (hk:0<k)
  (hx:x.cells.length=k∧∀ y∈x.cells,y.one=true) (hb:(l.length+1)*tby P e≤140737488355328) :
  ∃ v' g' o',Ya P #[t,t] v (.arr k (σ.length+g.length) 0 1) (σ++(g++[.cells x.cells]))=some (v',σ++g')∧Acc σ g' k v' (l++[x]) o'∧g.length≤g'.length∧(∀ j,some j≠o→j<g.length→g'[j]? = g[j]?)∧(o'=o∨∃ m,g.length+1≤m∧o'=some m):=by
 have h2:Acc σ (g++[.cells x.cells]) k v l o:=⟨h.len,by
  have:=h.val
  cases o with
  | none=>exact this
  | some j=>exact ⟨this.1,by rw [Qzl (Qzs.1 this.2).1];exact this.2⟩⟩
 obtain ⟨v',g',o',h3,h4,h5,h6,h7⟩:=h2.app (P:=P) (ys:=[x]) (y:=.arr k (σ.length+g.length) 0 1) he hs hz hk (by simpa using hx) (by
  have hl:x.cells.length=k:=hx.1
  have ha:x.cells.all AV.one=true:=by simpa using hx.2
  have ht:x.cells.take k=x.cells:=by rw [← hl];exact List.take_length
  simp only [Xi,Zae]
  simp [-AV.one,-AV.cells,sub,hl,ht]
  exact hx.2) (by simpa using hb)
 refine ⟨v',g',o',h3,h4,by simp at h5;omega,fun j hj hlt=>?_,?_⟩
 ·rw [h6 j hj (by simp;omega),Qzl hlt]
 ·rcases h7 with h7 | h7
  ·exact .inl h7
  ·exact .inr ⟨_,by simp,h7⟩
theorem MC.put1 {σ g:Za} {L:List Oyez.Chg} {v:AV} (h:MC σ g L v) (hl:L.length≤2^40) (hg2:1≤g.length) (c:Oyez.Chg) :
  ∃ v' g',Ya Tryz.prog #[62,62] v (.arr 6 (σ.length+(g++(Uc c.old++Uc c.new)).length) 0 1)
   (σ++((g++(Uc c.old++Uc c.new))++[.cells [.int .i64 c.kind,.int .i64 c.number,.bool c.had,.bool c.has,Xe (σ.length+g.length) c.old,Xe (σ.length+(g.length+(Uc c.old).length)) c.new]]))=some (v',σ++g')∧MC σ g' (L++[c]) v':=by
 obtain ⟨o,vals,h1,h0,hlo,h2,h3⟩:=h.ex
 have hlt:∀ j,o=some j→j<g.length:=fun j e=>by subst e;exact h1.lt
 have n1:RW σ.length (g++(Uc c.old++Uc c.new)) o (Xe (σ.length+g.length) c.old) c.old:=RW.clone _ hlt
 have n2:RW σ.length (g++(Uc c.old++Uc c.new)) o (Xe (σ.length+(g.length+(Uc c.old).length)) c.new) c.new:=by
  have:=RW.clone (n:=σ.length) (g:=g++Uc c.old) (Y:=[]) (o:=o) c.new fun j e=>by have:=hlt j e;rw [List.length_append];omega
  rwa [List.append_nil,List.append_assoc,List.length_append] at this
 obtain ⟨v',g',o',he,hA',hgl,hkeep,ho⟩:=(h1.more (Uc c.old++Uc c.new)).push1 (P:=Tryz.prog) (t:=62) (e:=74) (ag:=true) (x:=.agg [.int .i64 c.kind,.int .i64 c.number,.bool c.had,.bool c.has,Xe (σ.length+g.length) c.old,Xe (σ.length+(g.length+(Uc c.old).length)) c.new])
  (by simp) (by simp) (by simp) (by omega) ⟨rfl,fun y hy=>by
   simp only [AV.cells,List.mem_cons,List.not_mem_nil,or_false] at hy
   rcases hy with rfl | rfl | rfl | rfl | rfl | rfl
   ·rfl
   ·rfl
   ·rfl
   ·rfl
   ·exact n1.one
   ·exact n2.one⟩ (by simp;omega)
 have hlo':∀ j,o'=some j→2≤j:=by
  intro j e
  rcases ho with e2 | ⟨m,hm,e2⟩
  ·exact hlo j (e2▸e)
  ·rw [e] at e2
   have:=Option.some.inj e2
   rw [List.length_append] at hm
   omega
 refine ⟨v',g',he,⟨o',vals++[_],hA',.inr (by simp),hlo',by simp [h2],fun i d hd=>?_⟩⟩
 have turn:∀ {w:AV} {ws:List (List UInt8)},RW σ.length (g++(Uc c.old++Uc c.new)) o w ws→RW σ.length g' o' w ws:=by
  intro w ws hw
  rcases hw with hw | ⟨j,a1,a2,a3⟩
  ·exact .inl hw
  ·have hj:=(Qzs.1 a2).1
   refine .inr ⟨j,a1,by rw [hkeep j (fun e=>a3 e.symm) hj];exact a2,fun e=>?_⟩
   rcases ho with e2 | ⟨m,hm,e2⟩
   ·exact a3 (e2▸e)
   ·rw [e] at e2
    have:=Option.some.inj e2
    omega
 rcases Qzn i L.length with hi | hi
 ·rw [Qzl hi] at hd
  obtain ⟨w1,w2,a,b,e⟩:=h3 i d hd
  exact ⟨w1,w2,by rw [Qzl (by omega)];exact a,turn (b.more _),turn (e.more _)⟩
 ·rw [Qzr hi] at hd
  have hi0:i - L.length=0:=by
   have:=(Qzs.1 hd).1
   simp at this
   omega
  rw [hi0] at hd
  simp at hd
  subst hd
  exact ⟨_,_,by rw [Qzr (by omega),show i - vals.length=0 by omega];rfl,turn n1,turn n2⟩
def Zz (l:List Oyez.Chg):List Oyez.Chg × Int:=if Oyez.checkChg l≠0 then ([],Oyez.checkChg l) else (Oyez.back l,0)
theorem Zem (l:List Oyez.Chg) (c:Oyez.Chg):Oyez.back (l++[c])=Oyez.back l++[⟨c.kind,c.number,c.has,c.had,c.new,c.old⟩]:=by simp [Oyez.back]
set_option maxHeartbeats 8000000 in
theorem Ue3 (l:List Oyez.Chg) (hf:Waa l) (hl:l.length≤2^38) (σ:Za) :
  ACalls Tryz.prog 71 [Wb l] σ fun v σ'=>∃ v1,v=.tup [v1,.int .i64 (Zz l).2]∧(∃ g,σ'=σ++g)∧OwnC Xm σ.length σ' (Zz l).1 v1:=by
 obtain ⟨R,hR⟩:∃ R,Zz l=R:=⟨_,rfl⟩
 rw [hR]
 unfold Zz at hR
 refine Ua Tryz.func71 rfl (Wa Tryz.func71 (by decide) rfl) ?_
 simp [-Ya,Tryz.ntmps71]
 refine (Zay l hf).use ?_
 by_cases he:Oyez.checkChg l=0
 ·rw [if_neg (by simp [he])] at hR
  have rl:=Oyez.checkChg_zero he
  simp [-Ya,he]
  refine Yc (fun env σ'=>∃ (u:List AV) (i:Nat) (v:AV) (g:Za),env={ t:=u }∧u.length=31∧tg u 5=v∧tg u 13=Wb l∧tg u 14=.int .i64 l.length∧tg u 15=.int .i64 i∧σ'=σ++g∧i≤l.length∧MC σ g (Oyez.back (l.take i)) v)
   (fun env _=>match tg env.t 15 with | .int _ i=>l.length - i.toNat | _=>0) ⟨_,0,.nils,[],rfl,by simp,by simp,by simp,by simp,by simp,by simp,by omega,by simpa [Oyez.back] using MC.nil _ _⟩ ?_
  rintro env _ ⟨u,i,v,g,rfl,hl2,g5,g13,g14,g15,rfl,hi,hM⟩
  rcases Qzn i l.length with hlt | hge
  ·have hlt':(i:Int)<(l.length:Int):=by omega
   have hx:=w64 (n:=(i:Int)+1) (by omega) (by omega)
   obtain ⟨c,hc⟩:∃ c,l[i]=c:=⟨_,rfl⟩
   have hcm:c∈l:=hc▸List.getElem_mem hlt
   have gc:=rl.each c hcm
   have bc:=Ut gc
   have wc:=Vah gc
   obtain ⟨a1,a2,a3,a4⟩:=Wp bc
   have htk:l.take (i+1)=l.take i++[c]:=by rw [Qzt hlt,hc]
   have hbk:=Zem (l.take i) c
   rw [← htk] at hbk
   have hsub:(Oyez.back (l.take i)).length≤2^40:=by unfold Oyez.back;rw [List.length_map,List.length_take];omega
   have hch:=fun S=>Wbl c.place c.now c.was (by rw [a3];omega) (by rw [a1];omega) S
   rw [a1,a2,a3,a4] at hch
   obtain ⟨v',g',he2,hM'⟩:=MC.put1 (hM.more [AObj.cells (Wd c)]) hsub (by simp) ⟨c.kind,c.number,c.has,c.had,c.new,c.old⟩
   simp [-Ya,Wd,Nat.add_assoc] at he2
   simp [-Ya,hl2,g5,g13,g14,g15,hlt',hlt,hc,Nat.add_assoc]
   refine Wj [7,8,9] [(0,1),(0,2)] mixed (by kernel_rfl) (by kernel_rfl) ?_
   simp [-Ya,hl2,g5,g13,g14,g15,hlt',hlt,hc,Nat.add_assoc]
   refine Vd (Ws c) ?_
   try simp [-Ya,hl2,g5,g13,g14,g15,hlt',hlt,hc,Nat.add_assoc]
   refine Vd (Vai bc) ?_
   try simp [-Ya,hl2,g5,g13,g14,g15,hlt',hlt,hc,Nat.add_assoc]
   refine Vd (Wai bc) ?_
   try simp [-Ya,hl2,g5,g13,g14,g15,hlt',hlt,hc,Nat.add_assoc]
   refine Vi (hch _) ?_
   simp [-AV.one,Vx,Xw,Yas,-Ya,hl2,g5,g13,g14,g15,hlt',hlt,hc,hx,he2,Oyez.Chg.place,Nat.add_assoc]
   exact ⟨⟨i+1,by simp,by omega,by rw [hbk];exact hM'⟩,by omega⟩
  ·have hge':¬ (i:Int)<(l.length:Int):=by omega
   rw [List.take_of_length_le hge] at hM
   subst hR
   simp [-Ya,hl2,g5,g13,g14,g15,hge']
   exact hM.own
 ·rw [if_pos he] at hR
  subst hR
  simp [-Ya,he]
  exact OwnC.mk (.inl ⟨rfl,rfl⟩)
theorem Zc4 {l:List Oyez.Chg} (h:Oyez.RightC l):Waa l∧∀ c∈l,c.old.length≤2^40∧c.new.length≤2^40:=by
 have key:∀ (k n:Int) (ws:List (List UInt8)),Oyez.wordsErr k n ws=0→Yh ws≤64∧ws.length≤6:=by
  intro k n ws h
  obtain ⟨h3,h4,h5⟩:=Oyez.wordsErr_zero h
  refine ⟨?_,h3⟩
  unfold Oyez.line at h5
  rw [List.length_append,Va8] at h5
  omega
 constructor
 ·intro c hc
  obtain ⟨_,h1,h2,_⟩:=Oyez.chgErr_zero (h.each c hc)
  have k1:=key _ _ _ h1
  have k2:=key _ _ _ h2
  exact ⟨⟨by omega,by omega⟩,by omega,by omega⟩
 ·intro c hc
  obtain ⟨_,h1,h2,_⟩:=Oyez.chgErr_zero (h.each c hc)
  have k1:=key _ _ _ h1
  have k2:=key _ _ _ h2
  exact ⟨by omega,by omega⟩
end Ab

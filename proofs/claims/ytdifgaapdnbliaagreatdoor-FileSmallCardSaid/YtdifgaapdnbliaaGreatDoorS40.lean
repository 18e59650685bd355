/-
  Texts packed for a claim.
-/
import Derived.Test.YtdifgaapdnbliaaGreatDoorS00
import Derived.Test.YtdifgaapdnbliaaGreatDoorS34
import Derived.Test.YtdifgaapdnbliaaGreatDoorS36
import Derived.Test.YtdifgaapdnbliaaGreatDoorS37
import Derived.Test.YtdifgaapdnbliaaGreatDoorS38
import Derived.Test.YtdifgaapdnbliaaGreatDoorS35
set_option linter.all false
namespace Oyez
theorem aft_words {M:Nat} {x y:List Chg} (hx:∀ c∈x,c.old.length≤M∧c.new.length≤M) (hy:∀ c∈y,c.old.length≤M∧c.new.length≤M) {L:List Chg} (h:after x y=.ok L):∀ c∈L,c.old.length≤M∧c.new.length≤M:=by
 have hw:∀ c:Chg,c.old.length≤M→(c.was.getD []).length≤M:=fun c h=>by unfold Chg.was;split<;>simp [h]
 have hn:∀ c:Chg,c.new.length≤M→(c.now.getD []).length≤M:=fun c h=>by unfold Chg.now;split<;>simp [h]
 unfold after at h
 generalize placesOf ((x++y).map Chg.place)=ps at h
 induction ps generalizing L with
 | nil=>cases h;simp
 | cons p t ih =>
  rw [afterL] at h
  cases hp:afterAt x y p with
  | error e=>rw [hp] at h;cases h
  | ok o =>
   rw [hp] at h
   cases o with
   | none=>exact ih h
   | some d =>
    simp only at h
    cases ht:afterL x y t with
    | error e=>rw [ht] at h;cases h
    | ok m =>
     rw [ht] at h
     cases h
     intro c hc
     rcases List.mem_cons.1 hc with rfl | hc
     ·unfold afterAt at hp
      cases hfx:findC x p with
      | none =>
       cases hfy:findC y p with
       | none=>simp [hfx,hfy] at hp
       | some d=>simp [hfx,hfy] at hp;subst hp;exact hy _ (findC_mem hfy).1
      | some e =>
       cases hfy:findC y p with
       | none=>simp [hfx,hfy] at hp;subst hp;exact hx _ (findC_mem hfx).1
       | some d =>
        simp only [hfx,hfy] at hp
        by_cases h1:e.now=d.was
        ·rw [if_pos h1] at hp
         by_cases h2:e.was=d.now
         ·simp [h2] at hp
         ·rw [if_neg h2] at hp
          simp at hp
          subst hp
          exact ⟨hw e (hx e (findC_mem hfx).1).1,hn d (hy d (findC_mem hfy).1).2⟩
        ·rw [if_neg h1] at hp;cases hp
     ·exact ih ht c hc
end Oyez
namespace Ab
open Go Go.RowKit Go.Proofs
attribute [local irreducible] aws awp aw1 Og Om Oc Oa Ogd Ov Ot awd Ub awh Xc Ogh Ohd awl Ogl Ohl awv Ogv Ohv Zc Wc QFn Zd QRo QBe ACode AYield
def Vv (l:List Oyez.Chg):List AV:=l.flatMap Wd
theorem Xbn (l:List Oyez.Chg):(l.map Ze).flatMap AV.cells=Vv l:=by unfold Vv;rw [List.flatMap_map];rfl
theorem Yb8 (l:List Oyez.Chg):(Vv l).length=l.length*6:=by
 unfold Vv
 induction l with
 | nil=>rfl
 | cons p t ih=>rw [List.flatMap_cons,List.length_append,ih];simp [Wd];omega
theorem Zb3 (l:List Oyez.Chg) {i j:Nat} (h:i<l.length) (hj:j<6):(Vv l)[i*6+j]? = (Wd l[i])[j]?:=by
 rw [← Xbn,flat_get (k:=6) _ (fun x hx=>by obtain ⟨c,_,rfl⟩:=List.mem_map.1 hx;rfl) (by decide),show (i*6+j) / 6=i by omega,show (i*6+j) % 6=j by omega,Qzp,Qze h]
 rfl
theorem Zd8 (l:List Oyez.Chg) {i:Nat} (h:i<l.length):List.take 6 (List.drop (i*6) (Vv l))=Wd l[i]:=by
 apply List.ext_getElem?
 intro j
 rcases Qzn j 6 with hj | hj
 ·rw [List.getElem?_take_of_lt hj,List.getElem?_drop,Zb3 l h hj]
 ·rw [List.getElem?_eq_none (by simp;omega),List.getElem?_eq_none (by simpa [Wd] using hj)]
theorem Xcc (l:List Oyez.Chg) {i j:Nat} (h:i<l.length) (hj:j<6) (v:AV) (hv:(Wd l[i])[j]? = some v):List.take (i*6+j) (Vv l)++v::List.drop (i*6+j+1) (Vv l)=Vv l:=by
 have hl:=Yb8 l
 have h1:=Zb3 l h hj
 have hlt:i*6+j<(Vv l).length:=by omega
 rw [hv,Qze hlt] at h1
 rw [← Option.some.inj h1,← List.drop_eq_getElem_cons hlt,List.take_append_drop]
theorem Ucr (l:List Oyez.Chg) (hl:l.length≤2^30) (σ:Za):ACalls Tryz.prog 105 [Wb l] σ fun v σ'=>v=.arr 6 σ.length 0 l.length∧σ'=σ++[.cells (Vv l)]:=by
 refine Ua Tryz.func105 rfl (Wa Tryz.func105 (by decide) rfl) ?_
 have h1:(l.length:Int)*72≤281474976710656:=by omega
 have h2:(l.length:Int)≤9223372036854775807:=by omega
 simp [Tryz.ntmps105,h1,h2]
 rw [Wa2 l 6]
 case h=>exact fun _=>rfl
 rw [List.drop_eq_nil_of_le (by simp),List.append_nil]
 exact Xbn l
set_option maxHeartbeats 4000000 in
theorem Xbe (l:List Oyez.Chg) (hl:l.length≤2^30) (hw:∀ c∈l,c.old.length≤2^30∧c.new.length≤2^30):APure Tryz.prog 37 [Wb l] (Wb l):=by
 refine APure.of fun σ=>?_
 refine Ua Tryz.func37 rfl (Wa Tryz.func37 (by decide) rfl) ?_
 simp [Tryz.ntmps37]
 refine StA.of ((Ucr l hl σ).mono ?_)
 rintro _ _ ⟨rfl,rfl⟩
 simp
 refine Yc (fun env σ'=>∃ (u:List AV) (i:Nat) (g:Za),env={ t:=u }∧u.length=31∧tg u 3=.arr 6 σ.length 0 l.length∧tg u 8=.arr 6 σ.length 0 l.length∧tg u 9=.int .i64 l.length∧tg u 10=.int .i64 i∧σ'=σ++.cells (Vv l)::g∧i≤l.length)
  (fun env _=>match tg env.t 10 with | .int _ i=>l.length - i.toNat | _=>0) ⟨_,0,[],rfl,by simp,by simp,by simp,by simp,by simp,by simp,by omega⟩ ?_
 rintro env σ' ⟨u,i,g,rfl,hl',g3,g8,g9,g10,rfl,hi⟩
 rcases Qzn i l.length with hlt | hge
 ·have hlt':(i:Int)<(l.length:Int):=by omega
  have hx:=w64 (n:=(i:Int)+1) (by omega) (by omega)
  have hlen:=Yb8 l
  have hs:=Zd8 l hlt
  have hput4:=Xcc l hlt (show 4<6 by omega) (Zb l[i].old) rfl
  have hput5:=Xcc l hlt (show 5<6 by omega) (Zb l[i].new) rfl
  have hb:i*6+6≤l.length*6:=by omega
  have hb4:i*6+4+1≤l.length*6:=by omega
  have hb5:i*6+5+1≤l.length*6:=by omega
  have hwi:=hw _ (List.getElem_mem hlt)
  simp [Wd] at hs
  simp at hput4 hput5
  simp [hl',g3,g8,g9,g10,hlt',hlt,hlen,hs,hb]
  refine Wj [12,15] [(2,1),(3,1)] mixed (by kernel_rfl) (by kernel_rfl) ?_
  simp [hl',g3,g8,g9,g10,hlt',hlt,hlen,hs,hb,Nat.add_assoc]
  refine Vd (Vbm l[i].old hwi.1) ?_
  try simp [hl',g3,g8,g9,g10,hlt',hlt,hlen,hs,hb,Nat.add_assoc]
  refine Vd (Vbm l[i].new hwi.2) ?_
  simp [hl',g3,g8,g9,g10,hlt',hlt,hlen,hs,hb,hb4,hb5,hx,hput4,hput5,Nat.add_assoc]
  exact ⟨⟨i+1,by simp,by omega⟩,by omega⟩
 ·have hge':¬ (i:Int)<(l.length:Int):=by omega
  have hA:Acc σ (.cells (Vv l)::g) 6 (.arr 6 σ.length 0 l.length) (l.map Ze) (some 0):=⟨fun x hx=>by
   obtain ⟨r,_,rfl⟩:=List.mem_map.1 hx
   exact ⟨rfl,by simp [AV.cells,AV.one]⟩,by simp,by rw [Xbn];rfl⟩
  have hz:=hA.fz (Zy _ _ _)
  simpa [hl',g3,g8,g9,g10,hge'] using hz
theorem OwnC.fz {τ:Za} {lo:Nat} {L:List Oyez.Chg} {v:AV} (h:OwnC Xm lo τ L v):Fz 0 τ v (Wb L):=by
 rcases h.row with ⟨rfl,rfl⟩ | ⟨r,_,rfl,cs,h3,h4,h5⟩
 ·exact .nils_pl 6
 ·have hl:L.length=(L.map Ze).length:=by simp
  rw [hl]
  have hcell:∀ (i:Nat) (c:Oyez.Chg),L[i]? = some c→∃ w1 w2,(∀ j,j<6→cs[i*6+j]? = [AV.int .i64 c.kind,.int .i64 c.number,.bool c.had,.bool c.has,w1,w2][j]?)∧Fz 0 τ w1 (Zb c.old)∧Fz 0 τ w2 (Zb c.new):=by
   intro i c hc
   obtain ⟨w1,w2,g1,g2⟩:=h5 i c hc
   have key:∀ w ws,(w,ws)=(w1,c.old)∨(w,ws)=(w2,c.new)→Fz 0 τ w (Zb ws):=by
    intro w ws hw
    rcases g2 w ws hw with ⟨a,rfl⟩ | ⟨q,xs,a1,a2,rfl,a4,a5⟩
    ·rw [a];exact .pl0 1 1
    ·rw [show xs=strs ws from a5] at a4
     exact Uu _ a4
   refine ⟨w1,w2,fun j hj=>?_,key _ _ (.inl rfl),key _ _ (.inr rfl)⟩
   rw [← g1,List.getElem?_take_of_lt hj,List.getElem?_drop]
  refine Fz.arr 6 r 0 cs (L.map Ze) (fun i j=>(cs[i*6+j]?).getD .any) (Nat.zero_le _) h3 (fun i x hx=>?_) (fun i x hx j y hy=>?_)
  ·rw [Qzp,Qzm] at hx
   obtain ⟨c,hc,rfl⟩:=hx
   obtain ⟨w1,w2,g1,g2⟩:=hcell i c hc
   refine ⟨rfl,fun j y hy=>?_⟩
   have hj:j<6:=(Qzs.1 hy).1
   refine ⟨?_,?_⟩
   ·match j,hj,hy with
    | 0,_,hy=>simp [AV.cells] at hy;subst hy;rfl
    | 1,_,hy=>simp [AV.cells] at hy;subst hy;rfl
    | 2,_,hy=>simp [AV.cells] at hy;subst hy;rfl
    | 3,_,hy=>simp [AV.cells] at hy;subst hy;rfl
    | 4,_,hy=>simp [AV.cells] at hy;subst hy;rfl
    | 5,_,hy=>simp [AV.cells] at hy;subst hy;rfl
   ·have:=g1 j hj
    rw [Nat.zero_add,this]
    match j,hj with
    | 0,_=>rfl
    | 1,_=>rfl
    | 2,_=>rfl
    | 3,_=>rfl
    | 4,_=>rfl
    | 5,_=>rfl
  ·rw [Qzp,Qzm] at hx
   obtain ⟨c,hc,rfl⟩:=hx
   obtain ⟨w1,w2,g1,g2,g3⟩:=hcell i c hc
   have hj:j<6:=(Qzs.1 hy).1
   rw [g1 j hj]
   match j,hj,hy with
   | 0,_,hy=>simp [AV.cells] at hy;subst hy;exact .int _ _
   | 1,_,hy=>simp [AV.cells] at hy;subst hy;exact .int _ _
   | 2,_,hy=>simp [AV.cells] at hy;subst hy;exact .bool _
   | 3,_,hy=>simp [AV.cells] at hy;subst hy;exact .bool _
   | 4,_,hy=>simp [AV.cells] at hy;subst hy;exact g2
   | 5,_,hy=>simp [AV.cells] at hy;subst hy;exact g3
theorem Wbo (x:AV) (l:List Oyez.Chg) (h:(x=.nils∧l=[])∨x=Wb l) (hf:l.length≤2^40) (S:Za):ACalls Tryz.prog 43 [x] S fun v s=>v=Wb l∧s=S:=by
 rcases h with ⟨rfl,rfl⟩ | rfl
 ·refine APure.lend (Wb8 [] (by simp)) rfl (fun i x y hx hy=>?_) (fun C C' c hv=>?_)
  ·match i,hx,hy with
   | 0,hx,hy=>simp at hx hy;subst hx;subst hy;exact .nils_pl 6
   | i+1,hx,_=>simp at hx
  ·obtain ⟨A,cap,rfl,_,_⟩:=hv.pl_inv
   exact .pl0 6 A cap hv.pl_cap
 ·exact Wb8 l hf S
theorem Udn (n:Nat) (S:Za) (l:List Oyez.Chg):Fz n S (Wb l) (Wb l):=.pl 6 _ fun i x hx j y hy=>Zy n S l x (Qzg hx) y (Qzg hy)
theorem Vbg {S:Za} {lo:Nat} {l:List Oyez.Chg} {v:AV} (h:OwnC Xm lo S l v) (hf:l.length≤2^40) (hw:∀ c∈l,c.old.length≤2^40∧c.new.length≤2^40):ACalls Tryz.prog 42 [v,Wb l] S fun v s=>v=.bool true∧s=S:=by
 have k:=Va9 l l hf hw
 simp only [decide_true] at k
 refine APure.lend k rfl (fun i x y hx hy=>?_) (fun C C' c hv=>?_)
 ·match i,hx,hy with
  | 0,hx,hy=>simp only [List.getElem?_cons_zero,Option.some.injEq] at hx hy;subst hx;subst hy;exact h.fz
  | 1,hx,hy=>simp only [List.getElem?_cons_zero,List.getElem?_cons_succ,Option.some.injEq] at hx hy;subst hx;subst hy;exact Udn _ _ _
  | i+2,hx,_=>simp at hx
 ·cases hv;exact .bool _
structure Keep2 (r:Nat) (τ τ':Za):Prop where
 out:r<τ.length→τ'[r]? = τ[r]?
 cells:∀ (q:Nat) (cs:List AV),τ[q]? = some (.cells cs)→∃ cs',τ'[q]? = some (.cells cs')∧cs'.length=cs.length
 len:τ.length≤τ'.length
theorem Keep2.refl (r:Nat) (τ:Za):Keep2 r τ τ:=⟨fun _=>rfl,fun q cs h=>⟨cs,h,rfl⟩,Nat.le_refl _⟩
theorem Keep2.app {r:Nat} {τ τ':Za} (h:Keep2 r τ τ') (g:Za):Keep2 r τ (τ'++g):=by
 have hl:=h.len
 refine ⟨fun h1=>?_,fun r cs h1=>?_,by rw [List.length_append];omega⟩
 ·rw [Qzl (by omega)];exact h.out h1
 ·obtain ⟨cs',h2,h3⟩:=h.cells r cs h1
  exact ⟨cs',Vf h2,h3⟩
theorem Keep2.set {r:Nat} {τ τ':Za} (h:Keep2 r τ τ') {q:Nat} {cs cs':List AV} (h1:q≠r) (hq:τ'[q]? = some (.cells cs)) (hl:cs'.length=cs.length):Keep2 r τ (τ'.set q (.cells cs')):=by
 refine ⟨fun g1=>?_,fun p ds g1=>?_,by rw [List.length_set];exact h.len⟩
 ·rw [List.getElem?_set_ne h1];exact h.out g1
 ·obtain ⟨ds',g2,g3⟩:=h.cells p ds g1
  by_cases e:q=p
  ·subst e
   rw [hq] at g2
   obtain rfl:cs=ds':=by simpa using g2
   exact ⟨cs',List.getElem?_set_self (Qzs.1 hq).1,by omega⟩
  ·exact ⟨ds',by rw [List.getElem?_set_ne e];exact g2,g3⟩
end Ab
namespace Ab
open Go Go.RowKit Go.Proofs
attribute [local irreducible] aws awp aw1 Og Om Oc Oa Ogd Ov Ot awd Ub awh Xc Ogh Ohd awl Ogl Ohl awv Ogv Ohv Zc Wc QFn Zd QRo QBe ACode AYield
def WdC (lo hi q:Nat) (τ:Za) (w:AV) (ws:List (List UInt8)):Prop:=(ws=[]∧w=.pl 1 [])∨∃ (j:Nat) (xs:List AV),lo≤j∧j<hi∧j≠q∧w=.arr 1 j 0 ws.length∧τ[j]? = some (.cells xs)∧xs.length=ws.length
structure ClC (lo hi q:Nat) (L:List Oyez.Chg) (τ:Za):Prop where
 low:lo≤q∧q<hi
 row:∃ cs,τ[q]? = some (.cells cs)∧cs.length=L.length*6∧∀ (i:Nat) (c:Oyez.Chg),L[i]? = some c→∃ w1 w2,List.take 6 (List.drop (i*6) cs)=[.int .i64 c.kind,.int .i64 c.number,.bool c.had,.bool c.has,w1,w2]∧WdC lo hi q τ w1 c.old∧WdC lo hi q τ w2 c.new
theorem WdC.sm {lo hi q lo2 hi2 q2:Nat} {τ τ':Za} {w:AV} {ws:List (List UInt8)} (h:WdC lo2 hi2 q2 τ w ws) (hs:Sm lo hi q τ τ'):WdC lo2 hi2 q2 τ' w ws:=by
 rcases h with h | ⟨j,xs,a1,a2,a3,a4,a5,a6⟩
 ·exact .inl h
 ·obtain ⟨xs',b1,b2⟩:=hs.cells j xs a5
  exact .inr ⟨j,xs',a1,a2,a3,a4,b1,b2.trans a6⟩
theorem Sm.keepC {lo hi q:Nat} {τ τ':Za} (h:Sm lo hi q τ τ') {lo2 hi2 q2:Nat} {L:List Oyez.Chg} (hc:ClC lo2 hi2 q2 L τ) (hq:¬ (lo≤q2∧q2<hi∧q2≠q)):ClC lo2 hi2 q2 L τ':=by
 obtain ⟨cs,h1,h2,h3⟩:=hc.row
 refine ⟨hc.low,cs,by rw [h.out q2 (Qzs.1 h1).1 hq];exact h1,h2,fun i c hr=>?_⟩
 obtain ⟨w1,w2,g1,g2,g3⟩:=h3 i c hr
 exact ⟨w1,w2,g1,g2.sm h,g3.sm h⟩
theorem Sm.ownC {lo hi q:Nat} {τ τ':Za} (h:Sm lo hi q τ τ') {L:List Oyez.Chg} (hc:ClC lo hi q L τ):ClC lo hi q L τ':=h.keepC hc (by omega)
theorem ClC.more {lo hi q:Nat} {L:List Oyez.Chg} {τ:Za} (h:ClC lo hi q L τ) (g:Za):ClC lo hi q L (τ++g):=((Sm.refl lo hi q τ).app g).ownC h
def ChgC (lo hi:Nat) (τ:Za) (v:AV) (L:List Oyez.Chg):Prop:=(L=[]∧v=.nils)∨∃ q,v=.arr 6 q 0 L.length∧ClC lo hi q L τ
theorem OwnC.cl {lo:Nat} {τ:Za} {L:List Oyez.Chg} {v:AV} (h:OwnC Xm lo τ L v):ChgC lo τ.length τ v L:=by
 rcases h.row with h | ⟨q,h1,h2,cs,h3,h4,h5⟩
 ·exact .inl h
 ·refine .inr ⟨q,h2,⟨h1,(Qzs.1 h3).1⟩,cs,h3,h4,fun i c hc=>?_⟩
  obtain ⟨w1,w2,g1,g2⟩:=h5 i c hc
  have key:∀ w ws,(w,ws)=(w1,c.old)∨(w,ws)=(w2,c.new)→WdC lo τ.length q τ w ws:=by
   intro w ws hw
   rcases g2 w ws hw with h | ⟨j,xs,a1,a2,a3,a4,a5⟩
   ·exact .inl h
   ·exact .inr ⟨j,xs,a1,(Qzs.1 a4).1,a2,a3,a4,by rw [show xs=strs ws from a5];simp [strs]⟩
  exact ⟨w1,w2,g1,key _ _ (.inl rfl),key _ _ (.inr rfl)⟩
theorem ChgC.more {lo hi:Nat} {L:List Oyez.Chg} {v:AV} {τ:Za} (h:ChgC lo hi τ v L) (g:Za):ChgC lo hi (τ++g) v L:=by
 rcases h with h | ⟨q,h1,h2⟩
 ·exact .inl h
 ·exact .inr ⟨q,h1,h2.more g⟩
theorem ChgC.one {lo hi:Nat} {L:List Oyez.Chg} {v:AV} {τ:Za} (h:ChgC lo hi τ v L):v.one=true∧v.cells=[v]∧∀ S,Vb Tryz.prog 62 v S=some (.int .i64 L.length):=by
 rcases h with ⟨rfl,rfl⟩ | ⟨q,rfl,_⟩
 ·exact ⟨rfl,rfl,fun S=>by simp⟩
 ·exact ⟨rfl,rfl,fun S=>by simp⟩
theorem ChgC.sm {lo hi lo2 hi2 q:Nat} {τ τ':Za} {L:List Oyez.Chg} {v:AV} (h:ChgC lo2 hi2 τ v L) (hs:Sm lo hi q τ τ') (hd:hi2≤lo∨hi≤lo2):ChgC lo2 hi2 τ' v L:=by
 rcases h with h | ⟨q',h1,h2⟩
 ·exact .inl h
 ·exact .inr ⟨q',h1,hs.keepC h2 (by have:=h2.low;omega)⟩
theorem Wcs {τ':Za} {va vb:AV} {A B:List Oyez.Chg} {lo1 hi1 lo2 hi2:Nat} (ha:ChgC lo1 hi1 τ' va A) (hb:ChgC lo2 hi2 τ' vb B) (h11:lo1≤hi1) (h12:hi1≤lo2) {i:Nat} (hi:i<2) :
  ∃ (v:AV) (L:List Oyez.Chg) (lo hi q:Nat),[va,vb][i]? = some v∧lo1≤lo∧hi≤max hi1 hi2∧(L=[]∧v=.nils∨v=.arr 6 q 0 L.length∧ClC lo hi q L τ')∧(A.length<2^40→B.length<2^40→L.length<2^40) ∧
   ∀ τ'',Sm lo hi q τ' τ''→ChgC lo1 hi1 τ'' va A∧ChgC lo2 hi2 τ'' vb B:=by
 have k1:∀ {τ'':Za} {q:Nat},(∀ q',va=.arr 6 q' 0 A.length→q'=q)→Sm lo1 hi1 q τ' τ''→ChgC lo1 hi1 τ'' va A∧ChgC lo2 hi2 τ'' vb B:=by
  intro τ'' q hq hs
  refine ⟨?_,hb.sm hs (.inr h12)⟩
  rcases ha with ha | ⟨q',h1,h2⟩
  ·exact .inl ha
  ·obtain rfl:=hq q' h1
   exact .inr ⟨q',h1,hs.ownC h2⟩
 have k2:∀ {τ'':Za} {q:Nat},(∀ q',vb=.arr 6 q' 0 B.length→q'=q)→Sm lo2 hi2 q τ' τ''→ChgC lo1 hi1 τ'' va A∧ChgC lo2 hi2 τ'' vb B:=by
  intro τ'' q hq hs
  refine ⟨ha.sm hs (.inl h12),?_⟩
  rcases hb with hb | ⟨q',h1,h2⟩
  ·exact .inl hb
  ·obtain rfl:=hq q' h1
   exact .inr ⟨q',h1,hs.ownC h2⟩
 match i,hi with
 | 0,_ =>
  rcases ha with ⟨h1,h2⟩ | ⟨q,h1,h2⟩
  ·exact ⟨va,A,lo1,hi1,0,rfl,Nat.le_refl _,Nat.le_max_left _ _,.inl ⟨h1,h2⟩,fun h _=>h,fun τ'' hs=>k1 (fun q' e=>by rw [h2] at e;cases e) hs⟩
  ·exact ⟨va,A,lo1,hi1,q,rfl,Nat.le_refl _,Nat.le_max_left _ _,.inr ⟨h1,h2⟩,fun h _=>h,fun τ'' hs=>k1 (fun q' e=>by rw [h1] at e;cases e;rfl) hs⟩
 | 1,_ =>
  rcases hb with ⟨h1,h2⟩ | ⟨q,h1,h2⟩
  ·exact ⟨vb,B,lo2,hi2,0,rfl,by omega,Nat.le_max_right _ _,.inl ⟨h1,h2⟩,fun _ h=>h,fun τ'' hs=>k2 (fun q' e=>by rw [h2] at e;cases e) hs⟩
  ·exact ⟨vb,B,lo2,hi2,q,rfl,by omega,Nat.le_max_right _ _,.inr ⟨h1,h2⟩,fun _ h=>h,fun τ'' hs=>k2 (fun q' e=>by rw [h1] at e;cases e;rfl) hs⟩
theorem OwnC.more {lo:Nat} {τ:Za} {L:List Oyez.Chg} {v:AV} (h:OwnC Xm lo τ L v) (g:Za):OwnC Xm lo (τ++g) L v:=by
 rcases h.row with h | ⟨r,h1,h2,cs,h3,h4,h5⟩
 ·exact ⟨.inl h⟩
 ·refine ⟨.inr ⟨r,h1,h2,cs,Vf h3,h4,fun i c hc=>?_⟩⟩
  obtain ⟨w1,w2,a,b⟩:=h5 i c hc
  refine ⟨w1,w2,a,fun w ws hw=>?_⟩
  rcases b w ws hw with b | ⟨q,xs,b1,b2,b3,b4,b5⟩
  ·exact .inl b
  ·exact .inr ⟨q,xs,b1,b2,b3,Vf b4,b5⟩
theorem FileC.sm {lo hi lo2 hi2 q:Nat} {τ τ':Za} {F:List Oyez.Rec} {v:AV} (h:FileC lo2 hi2 τ v F) (hs:Sm lo hi q τ τ') (hd:hi2≤lo∨hi≤lo2):FileC lo2 hi2 τ' v F:=by
 rcases h with h | ⟨q',h1,h2⟩
 ·exact .inl h
 ·exact .inr ⟨q',h1,hs.keep h2 (by have:=h2.low;omega)⟩
end Ab
namespace Ab
open Go Go.RowKit Go.Proofs
attribute [local irreducible] aws awp aw1 Og Om Oc Oa Ogd Ov Ot awd Ub awh Xc Ogh Ohd awl Ogl Ohl awv Ogv Ohv Zc Wc QFn Zd QRo QBe ACode AYield
set_option maxHeartbeats 16000000 in
theorem Uez (x y:List Oyez.Chg) (lx:x.length≤9223372036854775807) (ly:y.length≤9223372036854775807) (wx:∀ c∈x,c.old.length≤9223372036854775807∧c.new.length≤9223372036854775807)
  (wy:∀ c∈y,c.old.length≤9223372036854775807∧c.new.length≤9223372036854775807):APure Tryz.prog 6 [Wb x,Wb y] (.bool true):=by
 refine APure.of fun σ=>?_
 refine Ua Tryz.func6 rfl (Wa Tryz.func6 (by decide) rfl) ?_
 have few:∀ l:List Oyez.Chg,Ux l=false→l.length≤90∧∀ c∈l,(c.old.length≤10∧Yh c.old≤2^20)∧c.new.length≤10∧Yh c.new≤2^20:=by
  intro l h
  unfold Ux at h
  rw [Bool.or_eq_false_iff] at h
  refine ⟨by simpa using h.2,fun c hc=>?_⟩
  have hq:(Zi c.old||Zi c.new)=false:=by
   cases hq:(Zi c.old||Zi c.new) with
   | false=>rfl
   | true=>exact absurd (List.any_eq_true.2 ⟨c,hc,hq⟩) (by rw [h.1];simp)
  rw [Bool.or_eq_false_iff] at hq
  exact ⟨Uak hq.1,Uak hq.2⟩
 simp [-Ud,Tryz.ntmps6]
 refine (Ubb x lx wx).use ?_
 cases ga:Ux x with
 | true =>
  simp [ga]
  refine awake_calls.use ?_
  simp
 | false =>
 simp [-Ud,ga]
 refine (Ubb y ly wy).use ?_
 cases gb:Ux y with
 | true =>
  simp [ga,gb]
  refine awake_calls.use ?_
  simp
 | false =>
 obtain ⟨nx,fx⟩:=few x ga
 obtain ⟨ny,fy⟩:=few y gb
 have Fx:Waa x:=fun c hc=>by have:=fx c hc;omega
 have Fy:Waa y:=fun c hc=>by have:=fy c hc;omega
 simp [-Ud,ga,gb]
 rw [Ud]
 simp [-Ud,ga,gb]
 refine (Xbe x (by omega) fun c hc=>by have:=fx c hc;omega).use ?_
 try simp [-Ud,ga,gb]
 refine (Xbe y (by omega) fun c hc=>by have:=fy c hc;omega).use ?_
 try simp [-Ud,ga,gb]
 refine (Ubn x (by omega)).use ?_
 try simp [-Ud,ga,gb]
 refine (Ubn y (by omega)).use ?_
 try simp [-Ud,ga,gb]
 refine (Ybb x Fx).use ?_
 simp [-Ud,ga,gb]
 refine Xn (fun env σ'=>∃ (u:List AV),env={ t:=u }∧u.length=82∧tg u 0=Wb x∧tg u 1=Wb y∧tg u 5=Wb x∧tg u 6=Wb y∧tg u 7=Wb x∧tg u 8=Wb y∧tg u 9=.int .i64 (if Oyez.checkChg x≠0 then Oyez.checkChg x else Oyez.checkChg y)∧σ'=σ) ?_ ?_
 ·by_cases k:Oyez.checkChg x=0
  ·simp [ga,gb,k]
   refine (Ybb y Fy).use ?_
   simp [ga,gb,k]
  ·simp [ga,gb,k]
 ·rintro env s ⟨u,rfl,hl,g0,g1,g5,g6,g7,g8,g9,hs0⟩
  obtain rfl:=hs0.symm
  simp [-Ud,hl,g0,g1,g5,g6,g7,g8,g9]
  refine Xn (fun env σ'=>∃ (u:List AV) (L:List Oyez.Chg) (E:Int) (x10:AV),env={ t:=u }∧u.length=82∧tg u 0=Wb x∧tg u 1=Wb y∧tg u 5=Wb x∧tg u 6=Wb y∧tg u 9=.int .i64 E∧tg u 10=x10∧σ'=σ∧Oyez.afterR x y=(L,E)∧((x10=.nils∧L=[])∨x10=Wb L)∧L.length≤80∧∀ c∈L,c.old.length≤10∧c.new.length≤10) ?_ ?_
  ·by_cases k:Oyez.checkChg x=0
   case neg =>
    have hA:Oyez.afterR x y=([],Oyez.checkChg x):=by unfold Oyez.afterR;rw [if_pos k]
    simp [hl,g0,g1,g5,g6,g7,g8,g9,k,hA]
   by_cases k2:Oyez.checkChg y=0
   case neg =>
    have hA:Oyez.afterR x y=([],Oyez.checkChg y):=by unfold Oyez.afterR;rw [if_neg (by simp [k]),if_pos k2]
    simp [hl,g0,g1,g5,g6,g7,g8,g9,k,k2,hA]
   have hA:Oyez.afterR x y=Zac x y:=by unfold Oyez.afterR Zac;rw [if_neg (by simp [k]),if_neg (by simp [k2])];cases Oyez.after x y<;>rfl
   have hsz:(Zac x y).1.length≤80∧∀ c∈(Zac x y).1,c.old.length≤10∧c.new.length≤10:=by
    unfold Zac
    cases h:Oyez.after x y with
    | error e=>simp
    | ok l =>
     simp only
     split
     ·simp
     ·exact ⟨by simp only;omega,Oyez.aft_words (fun c hc=>by have:=fx c hc;omega) (fun c hc=>by have:=fy c hc;omega) h⟩
   have hr:=Xd3 x y (Oyez.checkChg_zero k) (Oyez.checkChg_zero k2)
   obtain ⟨R,hR⟩:∃ R,Zac x y=R:=⟨_,rfl⟩
   rw [hR] at hA hsz hr
   simp [hl,g0,g1,g5,g6,g7,g8,g9,k,k2]
   refine hr.use ?_
   simp [hl,g0,g1,g5,g6,g7,g8,g9,k,k2]
   exact ⟨R.1,hA,rfl,hsz.1,hsz.2⟩
  ·rintro env s ⟨u,L,E,x10,rfl,hl,g0,g1,g5,g6,g9,g10,hs0,hA,c10,nL,wL⟩
   obtain rfl:=hs0.symm
   simp [hl,g0,g1,g5,g6,g9,g10]
   refine StA.of ((Ve1 x y Fx Fy (by omega) (by omega) σ).mono ?_)
   rintro _ τ ⟨v1,rfl,hpre,ho⟩
   rw [hA] at ho ⊢
   dsimp only at ho ⊢
   have al1:∀ S,Vb Tryz.prog 62 v1 S=some (.int .i64 L.length):=by
    intro S
    rcases ho.row with ⟨rfl,rfl⟩ | ⟨r,_,rfl,_⟩<;>simp
   simp [-Vb,hl,g0,g1,g5,g6,g9,g10]
   refine StA.of ((Wbo x10 L c10 (by omega) _).mono ?_)
   rintro _ s ⟨rfl,hs4⟩
   obtain rfl:=hs4.symm
   simp [-Vb,hl,g0,g1,g5,g6,g9,g10]
   refine StA.of ((Vbg ho (by omega) (fun c hc=>by have:=wL c hc;omega)).mono ?_)
   rintro _ s ⟨rfl,hs4⟩
   obtain rfl:=hs4.symm
   simp [-Vb,hl,g0,g1,g5,g6,g9,g10,al1]
   obtain ⟨r,hrow⟩:∃ r,∀ (i:Nat) (c:Oyez.Chg),L[i]? = some c→σ.length≤r∧v1=.arr 6 r 0 L.length∧∃ cs,τ[r]? = some (.cells cs)∧cs.length=L.length*6∧∃ w1 w2,
     List.take 6 (List.drop (i*6) cs)=[.int .i64 c.kind,.int .i64 c.number,.bool c.had,.bool c.has,w1,w2] ∧
     (∀ w ws,(w,ws)=(w1,c.old)∨(w,ws)=(w2,c.new)→(ws=[]∧w=.pl 1 [])∨∃ (q:Nat) (xs:List AV),σ.length≤q∧q≠r∧w=.arr 1 q 0 ws.length∧τ[q]? = some (.cells xs)∧Xm ws xs):=by
    rcases ho.row with ⟨h,_⟩ | ⟨r,a1,a2,cs,a3,a4,a5⟩
    ·exact ⟨0,fun i c h2=>by rw [h] at h2;simp at h2⟩
    ·exact ⟨r,fun i c h2=>⟨a1,a2,cs,a3,a4,a5 i c h2⟩⟩
   refine Yc (fun env σ'=>∃ (u:List AV) (i:Nat),env={ t:=u }∧u.length=82∧tg u 0=Wb x∧tg u 1=Wb y∧tg u 5=Wb x∧tg u 6=Wb y∧tg u 60=v1∧tg u 61=.int .i64 L.length∧tg u 62=.int .i64 i∧Keep2 r τ σ'∧(∃ g,σ'=σ++g)∧i≤L.length)
    (fun env _=>match tg env.t 62 with | .int _ i=>L.length - i.toNat | _=>0) ⟨_,0,rfl,by simp [hl],by simp [hl,g0],by simp [hl,g1],by simp [hl,g5],by simp [hl,g6],by simp [hl],by simp [hl],by simp [hl],.refl _ _,hpre,by omega⟩ ?_
   clear hl g0 g1 g5 g6 g9 g10
   rintro env τ' ⟨u,i,rfl,hl,g0,g1,g5,g6,g60,g61,g62,hK,⟨h',hh'⟩,hi⟩
   rcases Qzn i L.length with hlt | hge
   ·have hlt':(i:Int)<(L.length:Int):=by omega
    have hx:=w64 (n:=(i:Int)+1) (by omega) (by omega)
    obtain ⟨hr0,hv,cs,hcs,hcl,wa,wb,hw,hws⟩:=hrow i L[i] (Qze hlt)
    have hb6:i*6+6≤L.length*6:=by omega
    have hrl:=(Qzs.1 hcs).1
    have hcs':τ'[r]? = some (.cells cs):=by rw [hK.out hrl];exact hcs
    have wlen:∀ w ws,(w,ws)=(wa,L[i].old)∨(w,ws)=(wb,L[i].new)→(ws=[]∧w=.pl 1 [])∨∃ (q:Nat) (xs:List AV),σ.length≤q∧q≠r∧w=.arr 1 q 0 ws.length∧τ'[q]? = some (.cells xs)∧xs.length=ws.length:=by
     intro w ws hh
     rcases hws w ws hh with h | ⟨q,xs,a1,a2,a3,a4,a5⟩
     ·exact .inl h
     ·obtain ⟨xs',b1,b2⟩:=hK.cells q xs a4
      exact .inr ⟨q,xs',a1,a2,a3,b1,by rw [b2,show xs=strs ws from a5];simp [strs]⟩
    rcases wlen wa L[i].old (.inl rfl) with ⟨o0,rfl⟩ | ⟨q1,xs1,b1,b2,rfl,b4,b5⟩
    ·rcases wlen wb L[i].new (.inr rfl) with ⟨n0,rfl⟩ | ⟨q2,xs2,d1,d2,rfl,d4,d5⟩
     ·simp [Nat.add_assoc,hl,g0,g1,g5,g6,g60,g61,g62,hlt',hlt,hv,hcs',hcl,hw,hb6,hx]
      exact ⟨⟨i+1,by simp,hK.app _,⟨_,by rw [hh',List.append_assoc]⟩,by omega⟩,by omega⟩
     ·have d4a:∀ X:Za,(τ'++X)[q2]? = _:=fun X=>Vf d4
      simp [Nat.add_assoc,hl,g0,g1,g5,g6,g60,g61,g62,hlt',hlt,hv,hcs',hcl,hw,hb6,hx,d4a,d5]
      have hL2:(List.replicate L[i].new.length (AV.str [])++List.drop L[i].new.length xs2).length=xs2.length:=by rw [List.length_append,List.length_replicate,List.length_drop];omega
      exact ⟨⟨i+1,by simp,(hK.app _).set d2 (d4a _) hL2,⟨_,by rw [hh',List.append_assoc,Us (by omega)]⟩,by omega⟩,by omega⟩
    ·have b4a:∀ X:Za,(τ'++X)[q1]? = _:=fun X=>Vf b4
     have q1l:q1<τ'.length:=(Qzs.1 b4).1
     have hs1:∀ (Z:Za) (Y:AObj),(τ'++Z).set q1 Y=τ'.set q1 Y++Z:=fun Z Y=>List.set_append_left _ _ q1l
     have hs2:∀ (Y o:AObj),(τ'.set q1 Y++[o])[τ'.length]? = some o:=fun Y o=>by rw [Qzr (by simp)];simp
     have ex2:∀ (A B:AObj) (Z:Za) (q:Nat),σ.length≤q→∃ g,(τ'.set q1 A++Z).set q B=σ++g:=fun A B Z q hq=>⟨_,by rw [hh',Us (show σ.length≤q1 by omega) A,List.append_assoc,Us hq]⟩
     have hL1:(List.replicate L[i].old.length (AV.str [])++List.drop L[i].old.length xs1).length=xs1.length:=by rw [List.length_append,List.length_replicate,List.length_drop];omega
     rcases wlen wb L[i].new (.inr rfl) with ⟨n0,rfl⟩ | ⟨q2,xs2,d1,d2,rfl,d4,d5⟩
     ·simp [Nat.add_assoc,hl,g0,g1,g5,g6,g60,g61,g62,hlt',hlt,hv,hcs',hcl,hw,hb6,hx,b4a,b5,hs1,hs2]
      exact ⟨⟨i+1,by simp,(hK.set b2 b4 hL1).app _,⟨_,by rw [hh',Us (by omega),List.append_assoc]⟩,by omega⟩,by omega⟩
     ·have hL2:(List.replicate L[i].new.length (AV.str [])++List.drop L[i].new.length xs2).length=xs2.length:=by rw [List.length_append,List.length_replicate,List.length_drop];omega
      by_cases hq:q1=q2
      ·subst hq
       rw [b4] at d4
       obtain rfl:xs1=xs2:=by simpa using d4
       have hle:L[i].new.length≤L[i].old.length:=by omega
       have hs3:∀ (Y:AObj) (Z:Za),(τ'.set q1 Y++Z)[q1]? = some Y:=fun Y Z=>by rw [Qzl (by simpa using q1l),List.getElem?_set_self q1l]
       simp [Nat.add_assoc,hl,g0,g1,g5,g6,g60,g61,g62,hlt',hlt,hv,hcs',hcl,hw,hb6,hx,b4a,b5,hs1,hs2,hs3,hle]
       exact ⟨⟨i+1,by simp,((hK.set b2 b4 hL1).app _).set b2 (hs3 _ _) (by rw [List.length_append,List.length_replicate,List.length_drop];omega),ex2 _ _ _ _ b1,by omega⟩,by omega⟩
      ·have hs3:∀ (Y:AObj) (Z:Za),(τ'.set q1 Y++Z)[q2]? = some (.cells xs2):=fun Y Z=>Vf (by rw [List.getElem?_set_ne hq];exact d4)
       simp [Nat.add_assoc,hl,g0,g1,g5,g6,g60,g61,g62,hlt',hlt,hv,hcs',hcl,hw,hb6,hx,b4a,b5,hs1,hs2,hs3,d5]
       exact ⟨⟨i+1,by simp,((hK.set b2 b4 hL1).app _).set d2 (hs3 _ _) hL2,ex2 _ _ _ _ d1,by omega⟩,by omega⟩
   ·obtain rfl:i=L.length:=by omega
    simp [hl,g0,g1,g5,g6,g60,g61,g62]
    refine (Va9 x x (by omega) fun c hc=>by have:=fx c hc;omega).use ?_
    simp [hl,g0,g1,g5,g6,g60,g61,g62]
    refine (Va9 y y (by omega) fun c hc=>by have:=fy c hc;omega).use ?_
    simp [hl,g0,g1,g5,g6,g60,g61,g62]
    refine awake_calls.use ?_
    simp [hl]
    exact ⟨h',hh'⟩
end Ab

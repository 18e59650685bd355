/-
  Texts packed for a claim.
-/
import Derived.Test.YtdifgaapdnbliaaGreatDoorS00
import Derived.Test.YtdifgaapdnbliaaGreatDoorS27
import Derived.Test.YtdifgaapdnbliaaGreatDoorS33
import Derived.Test.YtdifgaapdnbliaaGreatDoorS34
import Derived.Test.YtdifgaapdnbliaaGreatDoorS05
import Derived.Test.YtdifgaapdnbliaaGreatDoorS23
import Derived.Test.YtdifgaapdnbliaaGreatDoorS31
set_option linter.all false
namespace Oyez
def idxC:List Chg→Place→Option Nat
 | [],_=>none
 | c::t,p=>if c.place=p then some 0 else (idxC t p).map (·+1)
theorem Wcp (p:Place):∀ l:List Chg,findC l p=(idxC l p).bind fun i=>l[i]?:=by
 intro l
 induction l with
 | nil=>rfl
 | cons c t ih =>
  unfold findC at ih ⊢
  rw [List.find?_cons,idxC]
  by_cases e:c.place=p
  ·simp [e]
  ·rw [if_neg e,show decide (c.place=p)=false by simp [e]]
   simp only [ih]
   cases idxC t p<;>simp
theorem idxC_lt {p:Place}:∀ {l:List Chg} {i:Nat},idxC l p=some i→i<l.length:=by
 intro l
 induction l with
 | nil=>intro i h;cases h
 | cons c t ih =>
  intro i h
  rw [idxC] at h
  split at h
  ·cases h;simp
  ·rw [Qzm] at h
   obtain ⟨j,hj,rfl⟩:=h
   have:=ih hj
   simp only [List.length_cons]
   omega
theorem findC_idx {l:List Chg} {p:Place} {i:Nat} (h:idxC l p=some i):findC l p=some (l[i]'(idxC_lt h)):=by
 rw [Wcp,h,Option.bind_some,Qze (idxC_lt h)]
theorem findC_idx0 {l:List Chg} {p:Place} (h:idxC l p=none):findC l p=none:=by rw [Wcp,h];rfl
end Oyez
namespace Ab
open Go Go.RowKit Go.Proofs
attribute [local irreducible] aws awp aw1 Og Om Oc Oa Ogd Ov Ot awd Ub awh Xc Ogh Ohd awl Ogl Ohl awv Ogv Ohv Zc Wc QFn Zd QRo QBe ACode AYield
theorem Ut {c:Oyez.Chg} (h:Oyez.chgErr c=0):¬ Wv c:=by
 obtain ⟨_,_,_,h1,h2,_⟩:=Oyez.chgErr_zero h
 rintro (⟨a,b⟩ | ⟨a,b⟩)
 ·exact b (h1 a)
 ·exact b (h2 a)
theorem Vbt {k n:Int} {ws:List (List UInt8)} (h:Oyez.wordsErr k n ws=0):ws.length≤6:=by
 unfold Oyez.wordsErr at h
 split at h
 ·cases h
 ·omega
theorem Vah {c:Oyez.Chg} (h:Oyez.chgErr c=0):c.old.length≤6∧c.new.length≤6:=by
 obtain ⟨_,h1,h2,_⟩:=Oyez.chgErr_zero h
 exact ⟨Vbt h1,Vbt h2⟩
def atI (o:Option Nat):Int:=match o with
 | none=>-1
 | some i=>i
set_option maxHeartbeats 1000000 in
theorem Ycd (l:List Oyez.Chg) (k n:Int) (hl0:l.length≤2^40):APure Tryz.prog 108 [Wb l,.int .i64 k,.int .i64 n] (.int .i64 (atI (Oyez.idxC l ⟨k,n⟩))):=by
 intro σ
 obtain ⟨X,hX⟩:∃ X,Oyez.idxC l ⟨k,n⟩=X:=⟨_,rfl⟩
 rw [hX]
 refine Ua Tryz.func108 rfl (Wa Tryz.func108 (by decide) rfl) ?_
 simp [Tryz.ntmps108]
 refine Yc (fun env σ'=>∃ (u:List AV) (i:Nat),env={ t:=u }∧u.length=31∧tg u 0=Wb l∧tg u 1=.int .i64 k∧tg u 2=.int .i64 n∧tg u 7=.int .i64 i∧σ'=σ∧i≤l.length∧(Oyez.idxC (l.drop i) ⟨k,n⟩).map (·+i)=X)
  (fun env _=>match tg env.t 7 with | .int _ i=>l.length - i.toNat | _=>0) ⟨_,0,rfl,by simp,by simp,by simp,by simp,by simp,rfl,by omega,by simpa using hX⟩ ?_
 rintro env σ' ⟨u,i,rfl,hl,g0,g1,g2,g7,rfl,hi,hd⟩
 rcases Qzn i l.length with hlt | hge
 ·have hlt':(i:Int)<(l.length:Int):=by omega
  have hx:=w64 (n:=(i:Int)+1) (by omega) (by omega)
  rw [List.drop_eq_getElem_cons hlt,Oyez.idxC] at hd
  have hnext:¬ l[i].place=⟨k,n⟩→(Oyez.idxC (l.drop (i+1)) ⟨k,n⟩).map (·+(i+1))=X:=fun hp=>by
   rw [if_neg hp,Option.map_map] at hd
   rw [← hd]
   congr 1
   funext a
   simp only [Function.comp]
   omega
  by_cases hk:l[i].kind=k
  ·by_cases hn:l[i].number=n
   ·have hp:l[i].place=⟨k,n⟩:=Oyez.Place.ext' hk hn
    rw [if_pos hp] at hd
    simp at hd
    subst hd
    simp [hl,g0,g1,g2,g7,hlt',hlt,hk,hn,atI]
   ·have hp:=hnext fun e=>hn (by rw [show l[i].number=l[i].place.number from rfl,e])
    simp [hl,g0,g1,g2,g7,hlt',hlt,hk,hn,hx]
    exact ⟨⟨i+1,by simp,by omega,hp⟩,by omega⟩
  ·have hp:=hnext fun e=>hk (by rw [show l[i].kind=l[i].place.kind from rfl,e])
   simp [hl,g0,g1,g2,g7,hlt',hlt,hk,hx]
   exact ⟨⟨i+1,by simp,by omega,hp⟩,by omega⟩
 ·have hge':¬ (i:Int)<(l.length:Int):=by omega
  rw [List.drop_eq_nil_of_le hge,Oyez.idxC] at hd
  subst hd
  simp [hl,g0,g1,g2,g7,hge',atI]
def Zac (x y:List Oyez.Chg):List Oyez.Chg × Int:=match Oyez.after x y with
 | .error _=>([],7)
 | .ok l=>if 80<l.length then ([],2) else (l,0)
set_option maxRecDepth 10000 in
set_option maxHeartbeats 16000000 in
theorem Xd3 (x y:List Oyez.Chg) (hx:Oyez.RightC x) (hy:Oyez.RightC y):APure Tryz.prog 40 [Wb x,Wb y] (.tup [Wb (Zac x y).1,.int .i64 (Zac x y).2]):=by
 have lx:=hx.len
 have ly:=hy.len
 refine APure.of fun σ=>?_
 obtain ⟨R,hR⟩:∃ R,Zac x y=R:=⟨_,rfl⟩
 rw [hR]
 unfold Zac at hR
 have hall:=Oyez.after_eq hx.range hy.range
 refine Ua Tryz.func40 rfl (Wa Tryz.func40 (by decide) rfl) ?_
 simp [-Ya,-Vb,Tryz.ntmps40]
 refine Yc (fun env σ'=>∃ (u:List AV) (k:Nat) (v:AV) (g:Za) (L:List Oyez.Chg) (o:Option Nat),env={ t:=u }∧u.length=99∧tg u 0=Wb x∧tg u 1=Wb y∧tg u 6=v∧tg u 7=.int .i64 k∧σ'=σ++g∧k≤5∧Oyez.afterL x y (Oyez.upTo k 0)=.ok L∧Acc σ g 6 v (L.map Ze) o)
  (fun env _=>match tg env.t 7 with | .int _ i=>5 - i.toNat | _=>0) ⟨_,0,.nils,[],[],none,rfl,by simp,by simp,by simp,by simp,by simp,by simp,by omega,rfl,Acc.nil _ _ _⟩ ?_
 rintro env σ' ⟨u,k,v,g,L,o,rfl,hl,g0,g1,g6,g7,rfl,hk,hL,hA⟩
 rcases Qzn k 5 with hlt | hge
 ·have hlt':(k:Int)<5:=by omega
  have hxk:=w64 (n:=(k:Int)+1) (by omega) (by omega)
  simp [-Ya,-Vb,hl,g0,g1,g6,g7,hlt',hlt]
  refine Yc (fun env σ'=>∃ (u:List AV) (n:Nat) (v:AV) (g:Za) (L:List Oyez.Chg) (o:Option Nat),env={ t:=u }∧u.length=99∧tg u 0=Wb x∧tg u 1=Wb y∧tg u 6=v∧tg u 7=.int .i64 k∧tg u 8=.int .i64 n∧σ'=σ++g∧n≤1000∧Oyez.afterL x y (Oyez.upTo k n)=.ok L∧Acc σ g 6 v (L.map Ze) o)
   (fun env _=>match tg env.t 8 with | .int _ i=>1000 - i.toNat | _=>0) ⟨_,0,v,g,L,o,rfl,by simp [hl],by simp [-Ya,-Vb,hl,g0],by simp [hl,g1],by simp [hl,g6],by simp [hl,g7],by simp [hl],rfl,by omega,hL,hA⟩ ?_
  clear hL hA g0 g1 g6 g7 hl u v g L o
  rintro env σ' ⟨u,n,v,g,L,o,rfl,hl,g0,g1,g6,g7,g8,rfl,hn,hL,hA⟩
  rcases Qzn n 1000 with hln | hgn
  ·have hln':(n:Int)<1000:=by omega
   have hxn:=w64 (n:=(n:Int)+1) (by omega) (by omega)
   have hLl:L.length≤5000:=Nat.le_trans (Oyez.afterL_len hL) (Oyez.upTo_len k n)
   have hstep:=Oyez.afterL_snoc hL ⟨k,n⟩
   rw [← Oyez.upTo_snoc hlt hln] at hstep
   simp [-Ya,-Vb,hl,g0,g1,g6,g7,g8,hln',hln]
   refine (Ycd x k n (by omega)).use ?_
   try simp [-Ya,-Vb,hl,g0,g1,g6,g7,g8,hln',hln]
   refine (Ycd y k n (by omega)).use ?_
   cases hix:Oyez.idxC x ⟨k,n⟩ with
   | none =>
    have hfx:=Oyez.findC_idx0 hix
    cases hiy:Oyez.idxC y ⟨k,n⟩ with
    | none =>
     have hfy:=Oyez.findC_idx0 hiy
     have hat:Oyez.afterAt x y ⟨k,n⟩=.ok none:=by unfold Oyez.afterAt;rw [hfx,hfy]
     rw [hat] at hstep
     simp [-Ya,-Vb,hl,g0,g1,g6,g7,g8,hln',hln,hix,hiy,atI,hxn]
     exact ⟨⟨n+1,by simp,by omega,L,by simpa using hstep,o,hA⟩,by omega⟩
    | some j =>
     have hj:=Oyez.idxC_lt hiy
     have hfy:=Oyez.findC_idx hiy
     have hat:Oyez.afterAt x y ⟨k,n⟩=.ok (some y[j]):=by unfold Oyez.afterAt;rw [hfx,hfy]
     rw [hat] at hstep
     obtain ⟨v',g',o',he,hA',_⟩:=hA.push (P:=Tryz.prog) (t:=44) (e:=57) (ag:=true) (x:=Ze y[j]) (by simp) (by simp) (by simp) (by omega) ⟨by simp [AV.cells],by simp [AV.cells,AV.one]⟩ (by simp;omega)
     simp [-Ya] at he
     have hj0:¬ (j:Int)<0:=by omega
     simp [-Ya,-Vb,hl,g0,g1,g6,g7,g8,hln',hln,hix,hiy,atI,hxn,hj,hj0,he]
     exact ⟨⟨n+1,by simp,by omega,L++[y[j]],by simpa using hstep,o',by rw [List.map_append];exact hA'⟩,by omega⟩
   | some i =>
    have hi:=Oyez.idxC_lt hix
    have hfx:=Oyez.findC_idx hix
    have hi0:¬ (i:Int)<0:=by omega
    cases hiy:Oyez.idxC y ⟨k,n⟩ with
    | none =>
     have hfy:=Oyez.findC_idx0 hiy
     have hat:Oyez.afterAt x y ⟨k,n⟩=.ok (some x[i]):=by unfold Oyez.afterAt;rw [hfx,hfy]
     rw [hat] at hstep
     obtain ⟨v',g',o',he,hA',_⟩:=hA.push (P:=Tryz.prog) (t:=44) (e:=57) (ag:=true) (x:=Ze x[i]) (by simp) (by simp) (by simp) (by omega) ⟨by simp [AV.cells],by simp [AV.cells,AV.one]⟩ (by simp;omega)
     simp [-Ya] at he
     simp [-Ya,-Vb,hl,g0,g1,g6,g7,g8,hln',hln,hix,hiy,atI,hxn,hi,hi0,he]
     exact ⟨⟨n+1,by simp,by omega,L++[x[i]],by simpa using hstep,o',by rw [List.map_append];exact hA'⟩,by omega⟩
    | some j =>
     have hj:=Oyez.idxC_lt hiy
     have hfy:=Oyez.findC_idx hiy
     have hj0:¬ (j:Int)<0:=by omega
     simp [-Ya,-Vb,hl,g0,g1,g6,g7,g8,hln',hln,hix,hiy,atI,hxn,hi,hi0,hj,hj0]
     have gx:=hx.each _ (List.getElem_mem hi)
     have gy:=hy.each _ (List.getElem_mem hj)
     have bx:=Ut gx
     have by_:=Ut gy
     obtain ⟨a1,a2,a3,a4⟩:=Wp bx
     obtain ⟨b1,b2,b3,b4⟩:=Wp by_
     have wx:=Vah gx
     have wy:=Vah gy
     obtain ⟨cx,hcx⟩:∃ c,x[i]=c:=⟨_,rfl⟩
     obtain ⟨cy,hcy⟩:∃ c,y[j]=c:=⟨_,rfl⟩
     rw [hcx] at gx bx a1 a2 a3 a4 wx hfx
     rw [hcy] at gy by_ b1 b2 b3 b4 wy hfy
     have hal1:=Uah cx.now cy.was (by rw [a3];omega)
     have hal2:=Uah cx.was cy.now (by rw [a1];omega)
     rw [a3,a4,b1,b2] at hal1
     rw [a1,a2,b3,b4] at hal2
     refine Va0 mixed [8,9] [10,11] (fun q=>[Wb x,AV.int .i64 i,.pp 6 (x.map Ze) i 0,Ze cx,Wb y,.int .i64 j,.pp 6 (y.map Ze) j 0,Ze cy].getD q .any) (fun _=>[.int .i64 0,.int .i64 0,.bool false,.bool false,.nils,.nils]) (fun q=>if q=8 then Wd cx else Wd cy) (by kernel_rfl)
      (LayA.of (n:=99) rfl rfl rfl (by kernel_rfl) (by simp [hl]) ?_ (by kernel_rfl) ?_ (by kernel_rfl) ?_ ?_ ?_) ?_
     ·intro a ha
      simp at ha
      rcases ha with rfl | rfl<;>simp [Uae]
     ·intro p' a' u' ha hu o ty d x' ho hop τ q hq
      match p',ha,hu with
      | 0,ha,hu =>
       simp at ha hu
       subst ha;subst hu
       simp at ho
       subst ho
       simp at hop
       obtain ⟨rfl,rfl,rfl⟩:=hop
       simp [Yb,tr,hq,hl,Wd]
      | 1,ha,hu =>
       simp at ha hu
       subst ha;subst hu
       simp at ho
       subst ho
       simp at hop
       obtain ⟨rfl,rfl,rfl⟩:=hop
       simp [Yb,tr,hq,hl,Wd]
      | p'+2,ha,_=>simp at ha
     ·intro i' o ho hA' hU g'
      have hi':i'<12:=(Qzs.1 ho).1
      simp at hA' hU
      have hc:i'=0∨i'=1∨i'=2∨i'=3∨i'=4∨i'=5∨i'=6∨i'=7:=by omega
      rcases hc with rfl | rfl | rfl | rfl | rfl | rfl | rfl | rfl <;>
       (simp at ho
        subst ho
        simp [Yb,tr,hl,g0,g1,hi,hj,hcx,hcy])
     ·intro q hq
      have hch:∀ (n:Nat) (c:Oyez.Chg),Fz n [] (Ze c) (Ze c):=fun n c=>.agg _ _ rfl fun i a b ha hb=>by
       obtain rfl:=Option.some.inj (ha.symm.trans hb)
       have hm:=Qzg ha
       simp only [List.mem_cons,List.not_mem_nil,or_false] at hm
       rcases hm with rfl | rfl | rfl | rfl | rfl | rfl
       ·exact .int _ _
       ·exact .int _ _
       ·exact .bool _
       ·exact .bool _
       ·exact (Xr _ _ _).2 trivial
       ·exact (Xr _ _ _).2 trivial
      have hls:∀ (n:Nat) (l:List Oyez.Chg),Fz n [] (Wb l) (Wb l):=fun n l=>.pl 6 _ fun i x hx j y hy=>Zy n [] l x (Qzg hx) y (Qzg hy)
      have hpp:∀ (n:Nat) (l:List Oyez.Chg) (a b:Nat),Fz n [] (.pp 6 (l.map Ze) a b) (.pp 6 (l.map Ze) a b):=fun n l a b=>.pp 6 _ a b fun i x hx j y hy=>Zy n [] l x (Qzg hx) y (Qzg hy)
      have hall:∀ v∈[Wb x,AV.int .i64 i,.pp 6 (x.map Ze) i 0,Ze cx,Wb y,.int .i64 j,.pp 6 (y.map Ze) j 0,Ze cy],Fz (σ++g).length [] v v:=by
       intro v hv
       simp only [List.mem_cons,List.not_mem_nil,or_false] at hv
       rcases hv with rfl | rfl | rfl | rfl | rfl | rfl | rfl | rfl
       ·exact hls _ _
       ·exact .int _ _
       ·exact hpp _ _ _ _
       ·exact hch _ _
       ·exact hls _ _
       ·exact .int _ _
       ·exact hpp _ _ _ _
       ·exact hch _ _
      rw [List.getD_eq_getElem?_getD]
      cases hv:([Wb x,AV.int .i64 i,.pp 6 (x.map Ze) i 0,Ze cx,Wb y,.int .i64 j,.pp 6 (y.map Ze) j 0,Ze cy])[q]? with
      | none=>exact .any _
      | some v=>exact hall v (Qzg hv)
     ·intro a' ha2 y' hy'
      have hc:∀ (n:Nat) (c:Oyez.Chg),∀ y'∈Wd c,Fz n [] y' y':=fun n c y' hy'=>Zy n [] [c] (Ze c) (by simp) y' hy'
      have hy2:y'∈(if a'=8 then Wd cx else Wd cy):=hy'
      split at hy2
      ·exact hc _ cx y' hy2
      ·exact hc _ cy y' hy2
     ·have hix0:List.idxOf 8 [8,9]=0:=by decide
      have hix1:List.idxOf 9 [8,9]=1:=by decide
      simp [-Ya,-Vb,Yb,tr,rrA,hl,hix0,hix1,Wd,Nat.add_assoc]
      refine hal1.use ?_
      by_cases hn:cx.now=cy.was
      ·simp [-Ya,-Vb,hl,g0,g1,g6,g7,g8,hn,Nat.add_assoc]
       refine hal2.use ?_
       by_cases hw:cx.was=cy.now
       ·have hat:Oyez.afterAt x y ⟨k,n⟩=.ok none:=by unfold Oyez.afterAt;rw [hfx,hfy];simp [hn,hw]
        rw [hat] at hstep
        simp [-Ya,-Vb,hl,g0,g1,g6,g7,g8,hn,hw,hxn,Nat.add_assoc]
        exact ⟨⟨n+1,by simp,by omega,L,by simpa using hstep,o,hA.more _⟩,by omega⟩
       ·have hch:Oyez.chg ⟨k,n⟩ cx.was cy.now=⟨k,n,cx.had,cy.has,cx.old,cy.new⟩:=by
         unfold Oyez.chg
         unfold Xb at a1 b3
         rw [a1,a2,b3,b4]
        have hat:Oyez.afterAt x y ⟨k,n⟩=.ok (some ⟨k,n,cx.had,cy.has,cx.old,cy.new⟩):=by unfold Oyez.afterAt;rw [hfx,hfy];simp [hn,hw,hch]
        rw [hat] at hstep
        obtain ⟨v',g',o',he,hA',_⟩:=(hA.more [.cells (Wd cx),.cells (Wd cy)]).push (P:=Tryz.prog) (t:=44) (e:=57) (ag:=true) (x:=Ze ⟨k,n,cx.had,cy.has,cx.old,cy.new⟩) (by simp) (by simp) (by simp) (by omega) ⟨by simp [AV.cells],by simp [AV.cells,AV.one]⟩ (by simp;omega)
        simp [-Ya,Wd,Nat.add_assoc] at he
        simp [-Ya,-Vb,hl,g0,g1,g6,g7,g8,hn,hw,hxn,he,Nat.add_assoc]
        exact ⟨⟨n+1,by simp,by omega,L++[_],by simpa using hstep,o',by rw [List.map_append];exact hA'⟩,by omega⟩
      ·have hat:Oyez.afterAt x y ⟨k,n⟩=.error ():=by unfold Oyez.afterAt;rw [hfx,hfy];simp [hn]
       rw [hat] at hstep
       have herr:Oyez.after x y=.error ():=by
        rw [← hall]
        have hsp:Oyez.allPlaces=Oyez.upTo k (n+1)++Oyez.allPlaces.drop (1000*k+(n+1)):=by unfold Oyez.upTo;rw [List.take_append_drop]
        rw [hsp,Oyez.afterL_app,hstep]
       rw [herr] at hR
       simp only at hR
       subst hR
       simp [-Ya,-Vb,hl,g0,g1,g6,g7,g8,hn,Nat.add_assoc]
  ·obtain rfl:n=1000:=by omega
   rw [Oyez.upTo_row] at hL
   simp [-Ya,-Vb,hl,g0,g1,g6,g7,g8,hxk]
   exact ⟨⟨k+1,by simp,by omega,L,hL,o,hA⟩,by omega⟩
 ·obtain rfl:k=5:=by omega
  rw [Oyez.upTo_all,hall] at hL
  rw [hL] at hR
  simp only at hR
  have hlen:∀ S,Vb Tryz.prog 44 v S=some (.int .i64 L.length):=by
   intro S
   have hv:=hA.val
   cases o with
   | none =>
    obtain ⟨rfl,h⟩:=hv
    rw [List.map_eq_nil_iff.1 h]
    simp
   | some j =>
    obtain ⟨rfl,_⟩:=hv
    simp
  have hz:=hA.fz (Zy _ _ _)
  by_cases h80:80<L.length
  ·rw [if_pos h80] at hR
   subst hR
   have h80':(80:Int)<(L.length:Int):=by omega
   simp [-Ya,-Vb,hl,g0,g1,g6,g7,hlen,h80,h80']
  ·rw [if_neg h80] at hR
   subst hR
   have h80':¬ (80:Int)<(L.length:Int):=by omega
   simp [-Ya,-Vb,hl,g0,g1,g6,g7,hlen,h80,h80']
   exact hz
end Ab
namespace Oyez
def diffTo (a b:List Rec) (k n:Nat):List Chg:=(upTo k n).filterMap (diffAt a b)
theorem diffTo_snoc (a b:List Rec) {k n:Nat} (hk:k<5) (hn:n<1000):diffTo a b k (n+1)=diffTo a b k n++(diffAt a b ⟨k,n⟩).toList:=by
 unfold diffTo
 rw [upTo_snoc hk hn,List.filterMap_append]
 cases h:diffAt a b ⟨k,n⟩<;>simp [h]
theorem diffTo_len (a b:List Rec) (k n:Nat):(diffTo a b k n).length≤5000:=Nat.le_trans (List.length_filterMap_le _ _) (upTo_len k n)
def makeTo (f:List Rec) (l:List Chg) (k n:Nat):List Rec:=(upTo k n).filterMap (recAt fun p=>stL l p (getIn f p))
theorem makeTo_snoc (f:List Rec) (l:List Chg) {k n:Nat} (hk:k<5) (hn:n<1000):makeTo f l k (n+1)=makeTo f l k n++(recAt (fun p=>stL l p (getIn f p)) ⟨k,n⟩).toList:=by
 unfold makeTo
 rw [upTo_snoc hk hn,List.filterMap_append]
 cases h:recAt (fun p=>stL l p (getIn f p)) ⟨k,n⟩<;>simp [h]
theorem makeTo_len (f:List Rec) (l:List Chg) (k n:Nat):(makeTo f l k n).length≤5000:=Nat.le_trans (List.length_filterMap_le _ _) (upTo_len k n)
theorem stL_snoc (l:List Chg) (c:Chg) (p:Place) (s:St):stL (l++[c]) p s=if c.place=p then c.now else stL l p s:=by unfold stL;rw [List.foldl_append];rfl
theorem back_snoc' (l:List Chg) (c:Chg):back (l++[c])=back l++[⟨c.kind,c.number,c.has,c.had,c.new,c.old⟩]:=by simp [back]
end Oyez
namespace Ab
open Go Go.RowKit Go.Proofs
attribute [local irreducible] aws awp aw1 Og Om Oc Oa Ogd Ov Ot awd Ub awh Xc Ogh Ohd awl Ogl Ohl awv Ogv Ohv Zc Wc QFn Zd QRo QBe ACode AYield
set_option maxHeartbeats 8000000 in
theorem Zez (l:List Oyez.Chg) (hl0:l.length≤2^40):APure Tryz.prog 73 [Wb l] (Wb (Oyez.back l)):=by
 refine APure.of fun σ=>?_
 obtain ⟨R,hR⟩:∃ R,Oyez.back l=R:=⟨_,rfl⟩
 rw [hR]
 refine Ua Tryz.func73 rfl (Wa Tryz.func73 (by decide) rfl) ?_
 simp [-Ya,Tryz.ntmps73]
 refine Yc (fun env σ'=>∃ (u:List AV) (i:Nat) (v:AV) (g:Za) (o:Option Nat),env={ t:=u }∧u.length=46∧tg u 0=Wb l∧tg u 3=v∧tg u 4=.int .i64 i∧σ'=σ++g∧i≤l.length∧Acc σ g 6 v ((Oyez.back (l.take i)).map Ze) o)
  (fun env _=>match tg env.t 4 with | .int _ i=>l.length - i.toNat | _=>0) ⟨_,0,.nils,[],none,rfl,by simp,by simp,by simp,by simp,by simp,by omega,by simpa [Oyez.back] using Acc.nil _ _ _⟩ ?_
 rintro env σ' ⟨u,i,v,g,o,rfl,hl,g0,g3,g4,rfl,hi,hA⟩
 rcases Qzn i l.length with hlt | hge
 ·have hlt':(i:Int)<(l.length:Int):=by omega
  have hx:=w64 (n:=(i:Int)+1) (by omega) (by omega)
  obtain ⟨c,hc⟩:∃ c,l[i]=c:=⟨_,rfl⟩
  have htk:l.take (i+1)=l.take i++[c]:=by rw [Qzt hlt,hc]
  have hbk:=Oyez.back_snoc' (l.take i) c
  rw [← htk] at hbk
  have hbl:(Oyez.back (l.take i)).length≤i:=by unfold Oyez.back;rw [List.length_map,List.length_take];omega
  obtain ⟨v',g',o',he,hA',_⟩:=hA.push (P:=Tryz.prog) (t:=44) (e:=57) (ag:=true) (x:=Ze ⟨c.kind,c.number,c.has,c.had,c.new,c.old⟩) (by simp) (by simp) (by simp) (by omega) ⟨by simp [AV.cells],by simp [AV.cells,AV.one]⟩ (by simp;omega)
  simp [-Ya] at he
  simp [-Ya,hl,g0,g3,g4,hlt',hlt,hc]
  refine Wj [32,33] [(0,1)] mixed (by kernel_rfl) (by kernel_rfl) ?_
  simp [-Ya,hl,g0,g3,g4,hlt',hlt,hc,hx,he]
  exact ⟨⟨i+1,by simp,by omega,o',by rw [hbk,List.map_append];exact hA'⟩,by omega⟩
 ·have hge':¬ (i:Int)<(l.length:Int):=by omega
  rw [List.take_of_length_le hge,hR] at hA
  have hz:=hA.fz (Zy _ _ _)
  simpa [-Ya,hl,g0,g3,g4,hge'] using hz
set_option maxHeartbeats 8000000 in
theorem Ucw (a b:List Oyez.Rec) (la:a.length≤2^40) (lb:b.length≤2^40) (wa:∀ r∈a,r.words.length≤2^40) (ha:Oyez.InRange a) (hb:Oyez.InRange b):APure Tryz.prog 76 [Xa a,Xa b] (Wb (Oyez.diff a b)):=by
 refine APure.of fun σ=>?_
 rw [← Oyez.diff_eq ha hb,← Oyez.upTo_all,show (Oyez.upTo 5 0).filterMap (Oyez.diffAt a b)=Oyez.diffTo a b 5 0 from rfl]
 refine Ua Tryz.func76 rfl (Wa Tryz.func76 (by decide) rfl) ?_
 simp [-Ya,Tryz.ntmps76]
 refine Yc (fun env σ'=>∃ (u:List AV) (k:Nat) (v:AV) (g:Za) (o:Option Nat),env={ t:=u }∧u.length=51∧tg u 0=Xa a∧tg u 1=Xa b∧tg u 5=v∧tg u 6=.int .i64 k∧σ'=σ++g∧k≤5∧Acc σ g 6 v ((Oyez.diffTo a b k 0).map Ze) o)
  (fun env _=>match tg env.t 6 with | .int _ i=>5 - i.toNat | _=>0) ⟨_,0,.nils,[],none,rfl,by simp,by simp,by simp,by simp,by simp,by simp,by omega,Acc.nil _ _ _⟩ ?_
 rintro env σ' ⟨u,k,v,g,o,rfl,hl,g0,g1,g5,g6,rfl,hk,hA⟩
 rcases Qzn k 5 with hlt | hge
 ·have hlt':(k:Int)<5:=by omega
  have hxk:=w64 (n:=(k:Int)+1) (by omega) (by omega)
  simp [-Ya,hl,g0,g1,g5,g6,hlt',hlt]
  refine Yc (fun env σ'=>∃ (u:List AV) (n:Nat) (v:AV) (g:Za) (o:Option Nat),env={ t:=u }∧u.length=51∧tg u 0=Xa a∧tg u 1=Xa b∧tg u 5=v∧tg u 6=.int .i64 k∧tg u 7=.int .i64 n∧σ'=σ++g∧n≤1000∧Acc σ g 6 v ((Oyez.diffTo a b k n).map Ze) o)
   (fun env _=>match tg env.t 7 with | .int _ i=>1000 - i.toNat | _=>0) ⟨_,0,v,g,o,rfl,by simp [hl],by simp [hl,g0],by simp [hl,g1],by simp [hl,g5],by simp [hl,g6],by simp [hl],rfl,by omega,hA⟩ ?_
  clear hA g0 g1 g5 g6 hl u v g o
  rintro env σ' ⟨u,n,v,g,o,rfl,hl,g0,g1,g5,g6,g7,rfl,hn,hA⟩
  rcases Qzn n 1000 with hln | hgn
  ·have hln':(n:Int)<1000:=by omega
   have hxn:=w64 (n:=(n:Int)+1) (by omega) (by omega)
   have hLl:=Oyez.diffTo_len a b k n
   have hstep:=Oyez.diffTo_snoc a b hlt hln
   obtain ⟨x,hxe⟩:∃ x,Oyez.getIn a ⟨k,n⟩=x:=⟨_,rfl⟩
   obtain ⟨y,hye⟩:∃ y,Oyez.getIn b ⟨k,n⟩=y:=⟨_,rfl⟩
   have hlx:(Xb x).length≤2^50:=by
    cases h:x with
    | none=>exact Nat.zero_le _
    | some ws =>
     obtain ⟨r,hr,_,rfl⟩:=Oyez.getIn_mem (hxe.trans h)
     have:=wa r hr
     show r.words.length≤2^50
     omega
   unfold Oyez.diffAt at hstep
   rw [hxe,hye] at hstep
   simp [-Ya,hl,g0,g1,g5,g6,g7,hln',hln]
   refine (Yad a k n (by omega)).use ?_
   simp [-Ya,hl,g0,g1,g5,g6,g7]
   refine (Yad b k n (by omega)).use ?_
   simp [-Ya,hl,g0,g1,g5,g6,g7,hxe,hye]
   refine (Uah x y hlx).use ?_
   by_cases hxy:x=y
   ·rw [if_pos hxy] at hstep
    simp [-Ya,hl,g0,g1,g5,g6,g7,hxe,hye,hxy,hxn]
    exact ⟨⟨n+1,by simp,by omega,o,by rw [hstep];simpa using hA⟩,by omega⟩
   ·rw [if_neg hxy] at hstep
    obtain ⟨v',g',o',he,hA',_⟩:=hA.push (P:=Tryz.prog) (t:=44) (e:=57) (ag:=true) (x:=Ze (Oyez.chg ⟨k,n⟩ x y)) (by simp) (by simp) (by simp) (by omega) ⟨by simp [AV.cells],by simp [AV.cells,AV.one]⟩ (by simp;omega)
    simp [-Ya,Oyez.chg] at he
    simp [-Ya,hl,g0,g1,g5,g6,g7,hxe,hye,hxy,hxn,Xb,he]
    exact ⟨⟨n+1,by simp,by omega,o',by rw [hstep,Option.toList_some,List.map_append];exact hA'⟩,by omega⟩
  ·obtain rfl:n=1000:=by omega
   have e:Oyez.diffTo a b k 1000=Oyez.diffTo a b (k+1) 0:=by unfold Oyez.diffTo;rw [Oyez.upTo_row]
   rw [e] at hA
   simp [-Ya,hl,g0,g1,g5,g6,g7,hxk]
   exact ⟨⟨k+1,by simp,by omega,o,hA⟩,by omega⟩
 ·obtain rfl:k=5:=by omega
  have hz:=hA.fz (Zy _ _ _)
  simpa [-Ya,hl,g0,g1,g5,g6] using hz
def Yau (f:List Oyez.Rec) (l:List Oyez.Chg):List Oyez.Rec × Int:=if Oyez.fits f l=false then ([],7) else if 40<(Oyez.make f l).length then ([],2) else (Oyez.make f l,0)
set_option maxRecDepth 10000 in
set_option maxHeartbeats 16000000 in
theorem Ye5 (f:List Oyez.Rec) (l:List Oyez.Chg) (hf:Oyez.Right f) (hl0:Oyez.RightC l):APure Tryz.prog 74 [Xa f,Wb l] (.tup [Xa (Yau f l).1,.int .i64 (Yau f l).2]):=by
 refine APure.of fun σ=>?_
 obtain ⟨R,hR⟩:∃ R,Yau f l=R:=⟨_,rfl⟩
 rw [hR]
 unfold Yau at hR
 have lf:=hf.len
 have ll:=hl0.len
 have hwf:∀ p,(Xb (Oyez.getIn f p)).length≤2^50:=fun p=>by
  cases h:Oyez.getIn f p with
  | none=>exact Nat.zero_le _
  | some ws =>
   obtain ⟨r,hr,_,rfl⟩:=Oyez.getIn_mem h
   have:=(Oyez.wordsErr_zero ((Oyez.recErr_iff r).1 (hf.recs r hr)).2).1
   show r.words.length≤2^50
   omega
 rw [← Oyez.make_eq hf.sorted hf.range hl0.range,← Oyez.upTo_all,show (Oyez.upTo 5 0).filterMap (Oyez.recAt fun p=>Oyez.stL l p (Oyez.getIn f p))=Oyez.makeTo f l 5 0 from rfl] at hR
 refine Ua Tryz.func74 rfl (Wa Tryz.func74 (by decide) rfl) ?_
 simp [-Ya,Tryz.ntmps74]
 refine Yc (fun env σ'=>∃ (u:List AV) (i:Nat),env={ t:=u }∧u.length=109∧tg u 0=Xa f∧tg u 1=Wb l∧tg u 6=.int .i64 i∧σ'=σ∧i≤l.length∧∀ c∈l.take i,Oyez.getIn f c.place=c.was)
  (fun env _=>match tg env.t 6 with | .int _ i=>l.length - i.toNat | _=>0) ⟨_,0,rfl,by simp,by simp,by simp,by simp,rfl,by omega,by simp⟩ ?_
 rintro env _ ⟨u,i,rfl,hl,g0,g1,g6,hs0,hi,hfit⟩
 obtain rfl:=hs0.symm
 rcases Qzn i l.length with hlt | hge
 ·have hlt':(i:Int)<(l.length:Int):=by omega
  have hx:=w64 (n:=(i:Int)+1) (by omega) (by omega)
  obtain ⟨c,hc⟩:∃ c,l[i]=c:=⟨_,rfl⟩
  have hcm:c∈l:=hc▸List.getElem_mem hlt
  have bc:=Ut (hl0.each c hcm)
  obtain ⟨a1,a2,_,_⟩:=Wp bc
  have htk:l.take (i+1)=l.take i++[c]:=by rw [Qzt hlt,hc]
  have hal:=Uah (Oyez.getIn f c.place) c.was (hwf c.place)
  rw [a1,a2] at hal
  simp [hl,g0,g1,g6,hlt',hlt,hc]
  refine Zg mixed (by kernel_rfl) ?_
  simp [hl,g0,g1,g6,hlt',hlt,hc]
  refine Vd (Yad f c.kind c.number (by omega)) ?_
  rw [show ({ kind:=c.kind,number:=c.number }:Oyez.Place)=c.place from rfl]
  simp [hl,g0,g1,g6,hlt',hlt,hc]
  refine Zg mixed (by kernel_rfl) ?_
  simp [hl,g0,g1,g6,hlt',hlt,hc]
  refine Vd hal ?_
  by_cases he:Oyez.getIn f c.place=c.was
  ·simp [hl,g0,g1,g6,hlt',hlt,hc,hx,he]
   refine ⟨⟨i+1,by simp,by omega,fun d hd=>?_⟩,by omega⟩
   rw [htk,List.mem_append,List.mem_singleton] at hd
   rcases hd with hd | rfl
   ·exact hfit d hd
   ·exact he
  ·have hfn:Oyez.fits f l=false:=by
    unfold Oyez.fits
    rw [List.all_eq_false]
    exact ⟨c,hcm,by simpa using he⟩
   rw [if_pos hfn] at hR
   subst hR
   simp [hl,g0,g1,g6,hlt',hlt,hc,he]
 ·have hge':¬ (i:Int)<(l.length:Int):=by omega
  have hfy:Oyez.fits f l=true:=by
   unfold Oyez.fits
   rw [List.all_eq_true]
   intro c hc
   rw [List.take_of_length_le hge] at hfit
   simpa using hfit c hc
  rw [if_neg (by simp [hfy])] at hR
  clear hfit
  simp [-Ya,hl,g0,g1,g6,hge']
  refine Yc (fun env σ'=>∃ (u:List AV) (k:Nat) (v:AV) (g:Za) (o:Option Nat),env={ t:=u }∧u.length=109∧tg u 0=Xa f∧tg u 1=Wb l∧tg u 9=v∧tg u 10=.int .i64 k∧σ'=σ++g∧k≤5∧Acc σ g 3 v ((Oyez.makeTo f l k 0).map Yd) o)
   (fun env _=>match tg env.t 10 with | .int _ i=>5 - i.toNat | _=>0) ⟨_,0,.nils,[],none,rfl,by simp [hl],by simp [hl,g0],by simp [hl,g1],by simp [hl],by simp [hl],by simp,by omega,Acc.nil _ _ _⟩ ?_
  clear g0 g1 g6 hl hge hge' hi u i
  rintro env σ' ⟨u,k,v,g,o,rfl,hl,g0,g1,g9,g10,rfl,hk,hA⟩
  rcases Qzn k 5 with hlt | hge
  ·have hlt':(k:Int)<5:=by omega
   have hxk:=w64 (n:=(k:Int)+1) (by omega) (by omega)
   simp [-Ya,hl,g0,g1,g9,g10,hlt',hlt]
   refine Yc (fun env σ'=>∃ (u:List AV) (n:Nat) (v:AV) (g:Za) (o:Option Nat),env={ t:=u }∧u.length=109∧tg u 0=Xa f∧tg u 1=Wb l∧tg u 9=v∧tg u 10=.int .i64 k∧tg u 11=.int .i64 n∧σ'=σ++g∧n≤1000∧Acc σ g 3 v ((Oyez.makeTo f l k n).map Yd) o)
    (fun env _=>match tg env.t 11 with | .int _ i=>1000 - i.toNat | _=>0) ⟨_,0,v,g,o,rfl,by simp [hl],by simp [hl,g0],by simp [hl,g1],by simp [hl,g9],by simp [hl,g10],by simp [hl],rfl,by omega,hA⟩ ?_
   clear hA g0 g1 g9 g10 hl u v g o
   rintro env σ' ⟨u,n,v,g,o,rfl,hl,g0,g1,g9,g10,g11,rfl,hn,hA⟩
   rcases Qzn n 1000 with hln | hgn
   ·have hln':(n:Int)<1000:=by omega
    have hxn:=w64 (n:=(n:Int)+1) (by omega) (by omega)
    have hLl:=Oyez.makeTo_len f l k n
    have hstep:=Oyez.makeTo_snoc f l hlt hln
    obtain ⟨p,hp⟩:∃ p:Oyez.Place,(⟨k,n⟩:Oyez.Place)=p:=⟨_,rfl⟩
    have hpk:p.kind=k:=by rw [← hp]
    have hpn:p.number=n:=by rw [← hp]
    simp [-Ya,hl,g0,g1,g9,g10,g11,hln',hln]
    refine (Yad f k n (by omega)).use ?_
    rw [hp] at hstep ⊢
    simp [-Ya,hl,g0,g1,g9,g10,g11,hln',hln]
    refine Yc (fun env σ'=>∃ (u:List AV) (i:Nat),env={ t:=u }∧u.length=109∧tg u 0=Xa f∧tg u 1=Wb l∧tg u 9=v∧tg u 10=.int .i64 k∧tg u 11=.int .i64 n∧tg u 12=Zb (Xb (Oyez.stL (l.take i) p (Oyez.getIn f p)))∧tg u 13=.bool (Oyez.stL (l.take i) p (Oyez.getIn f p)).isSome∧tg u 14=.int .i64 i∧σ'=σ++g∧i≤l.length)
     (fun env _=>match tg env.t 14 with | .int _ i=>l.length - i.toNat | _=>0) ⟨_,0,rfl,by simp [hl],by simp [hl,g0],by simp [hl,g1],by simp [hl,g9],by simp [hl,g10],by simp [hl,g11],by simp [hl,Oyez.stL],by simp [hl,Oyez.stL],by simp [hl],rfl,by omega⟩ ?_
    clear g0 g1 g9 g10 g11 hl u
    rintro env _ ⟨u,i,rfl,hl,g0,g1,g9,g10,g11,g12,g13,g14,hs0,hi⟩
    obtain rfl:=hs0.symm
    rcases Qzn i l.length with hlt2 | hge2
    ·have hlt2':(i:Int)<(l.length:Int):=by omega
     have hxi:=w64 (n:=(i:Int)+1) (by omega) (by omega)
     obtain ⟨c,hc⟩:∃ c,l[i]=c:=⟨_,rfl⟩
     have hcm:c∈l:=hc▸List.getElem_mem hlt2
     have bc:=Ut (hl0.each c hcm)
     obtain ⟨_,_,a3,a4⟩:=Wp bc
     have htk:l.take (i+1)=l.take i++[c]:=by rw [Qzt hlt2,hc]
     have hst:=Oyez.stL_snoc (l.take i) c p (Oyez.getIn f p)
     rw [← htk] at hst
     by_cases hk2:c.kind=k
     ·by_cases hn2:c.number=n
      ·have hpe:c.place=p:=Oyez.Place.ext' (by rw [hpk];exact hk2) (by rw [hpn];exact hn2)
       rw [if_pos hpe] at hst
       simp [-Ya,hl,g0,g1,g9,g10,g11,g14,hlt2',hlt2,hc,hk2,hn2]
       refine Zg mixed (by kernel_rfl) ?_
       simp [-Ya,hl,g0,g1,g9,g10,g11,g14,hlt2',hlt2,hc,hk2,hn2,hxi]
       exact ⟨⟨i+1,by rw [hst,a3],by rw [hst,a4],by simp,by omega⟩,by omega⟩
      ·have hpe:¬ c.place=p:=fun e=>hn2 (by rw [show c.number=c.place.number from rfl,e,hpn])
       rw [if_neg hpe] at hst
       simp [-Ya,hl,g0,g1,g9,g10,g11,g12,g13,g14,hlt2',hlt2,hc,hk2,hn2,hxi]
       exact ⟨⟨i+1,by rw [hst],by rw [hst],by simp,by omega⟩,by omega⟩
     ·have hpe:¬ c.place=p:=fun e=>hk2 (by rw [show c.kind=c.place.kind from rfl,e,hpk])
      rw [if_neg hpe] at hst
      simp [-Ya,hl,g0,g1,g9,g10,g11,g12,g13,g14,hlt2',hlt2,hc,hk2,hxi]
      exact ⟨⟨i+1,by rw [hst],by rw [hst],by simp,by omega⟩,by omega⟩
    ·have hge2':¬ (i:Int)<(l.length:Int):=by omega
     rw [List.take_of_length_le hge2] at g12 g13
     unfold Oyez.recAt at hstep
     dsimp only at hstep
     obtain ⟨s,hs⟩:∃ s,Oyez.stL l p (Oyez.getIn f p)=s:=⟨_,rfl⟩
     rw [hs] at hstep g12 g13
     cases s with
     | none =>
      simp at hstep g13
      simp [-Ya,hl,g0,g1,g9,g10,g11,g12,g13,g14,hge2',hxn]
      exact ⟨⟨n+1,by simp,by omega,o,by rw [hstep];exact hA⟩,by omega⟩
     | some ws =>
      simp [Xb,hpk,hpn] at hstep g12 g13
      obtain ⟨v',g',o',he,hA',_⟩:=hA.push (P:=Tryz.prog) (t:=27) (e:=96) (ag:=true) (x:=Yd ⟨k,n,ws⟩) (by simp) (by simp) (by simp) (by omega) ⟨by simp [AV.cells],by simp [AV.cells,AV.one]⟩ (by simp;omega)
      simp [-Ya,Uf] at he
      simp [-Ya,hl,g0,g1,g9,g10,g11,g12,g13,g14,hge2',hxn,he]
      exact ⟨⟨n+1,by simp,by omega,o',by rw [hstep,List.map_append];exact hA'⟩,by omega⟩
   ·obtain rfl:n=1000:=by omega
    have e:Oyez.makeTo f l k 1000=Oyez.makeTo f l (k+1) 0:=by unfold Oyez.makeTo;rw [Oyez.upTo_row]
    rw [e] at hA
    simp [-Ya,hl,g0,g1,g9,g10,g11,hxk]
    exact ⟨⟨k+1,by simp,by omega,o,hA⟩,by omega⟩
  ·obtain rfl:k=5:=by omega
   obtain ⟨L,hL⟩:∃ L,Oyez.makeTo f l 5 0=L:=⟨_,rfl⟩
   rw [hL] at hA hR
   have hlen:∀ S,Vb Tryz.prog 27 v S=some (.int .i64 L.length):=by
    intro S
    have hv:=hA.val
    cases o with
    | none =>
     obtain ⟨rfl,h⟩:=hv
     rw [List.map_eq_nil_iff.1 h]
     simp
    | some j =>
     obtain ⟨rfl,_⟩:=hv
     simp
   have hz:=hA.fz (Ya0 _ _ _)
   by_cases h40:40<L.length
   ·rw [if_pos h40] at hR
    subst hR
    have h40':(40:Int)<(L.length:Int):=by omega
    simp [-Ya,-Vb,hl,g0,g1,g9,g10,hlen,h40,h40']
   ·rw [if_neg h40] at hR
    subst hR
    have h40':¬ (40:Int)<(L.length:Int):=by omega
    simp [-Ya,-Vb,hl,g0,g1,g9,g10,hlen,h40,h40']
    exact hz
end Ab

/-
  Texts packed for a claim.
-/
import Derived.Test.YtdifgaapdnbliaaGreatDoorS00
import Derived.Test.YtdifgaapdnbliaaGreatDoorS15
import Derived.Test.YtdifgaapdnbliaaGreatDoorS24
import Derived.Test.YtdifgaapdnbliaaGreatDoorS23
import Derived.Test.YtdifgaapdnbliaaGreatDoorS31
set_option linter.all false
namespace Ab
open Go Go.RowKit Go.Proofs
attribute [local irreducible] aws awp aw1 Og Om Oc Oa Ogd Ov Ot awd Ub awh Xc Ogh Ohd awl Ogl Ohl awv Ogv Ohv Zc Wc QFn Zd QRo QBe ACode AYield
def Waa (l:List Oyez.Chg):Prop:=∀ c∈l,(Yh c.old≤2^38∧c.old.length≤2^38)∧Yh c.new≤2^38∧c.new.length≤2^38
def Vo (l:List Oyez.Chg) (i:Nat):Option Oyez.Place:=if i=0 then none else (l[i - 1]?).map Oyez.Chg.place
def Wv (c:Oyez.Chg):Prop:=(c.had=false∧c.old≠[])∨(c.has=false∧c.new≠[])
theorem Wp {c:Oyez.Chg} (h:¬ Wv c):Xb c.was=c.old∧c.was.isSome=c.had∧Xb c.now=c.new∧c.now.isSome=c.has:=by
 unfold Wv at h
 rw [not_or] at h
 obtain ⟨h1,h2⟩:=h
 unfold Oyez.Chg.was Oyez.Chg.now Xb
 cases hh:c.had with
 | true=>cases hh2:c.has with
  | true=>simp
  | false =>
   have:c.new=[]:=Classical.byContradiction fun e=>h2 ⟨hh2,e⟩
   simp [this]
 | false =>
  have ho:c.old=[]:=Classical.byContradiction fun e=>h1 ⟨hh,e⟩
  cases hh2:c.has with
  | true=>simp [ho]
  | false =>
   have:c.new=[]:=Classical.byContradiction fun e=>h2 ⟨hh2,e⟩
   simp [this,ho]
theorem Xbs {c:Oyez.Chg} (h1:Oyez.placeErr c.kind c.number=0) (h2:Oyez.wordsErr c.kind c.number c.old=0) (h3:Oyez.wordsErr c.kind c.number c.new=0):(Wv c→Oyez.chgErr c=8)∧(¬ Wv c→c.was=c.now→Oyez.chgErr c=8)∧(¬ Wv c→c.was≠c.now→Oyez.chgErr c=0):=by
 have e:Oyez.chgErr c=if (!c.had&&!c.old.isEmpty)||(!c.has&&!c.new.isEmpty)||(c.had == c.has&&decide (c.old=c.new)) then 8 else 0:=by
  unfold Oyez.chgErr
  rw [if_neg (by simp [h1]),if_neg (by simp [h2]),if_neg (by simp [h3])]
 have hw:¬ Wv c→(c.was=c.now↔c.had=c.has∧c.old=c.new):=by
  intro h
  obtain ⟨g1,g2,g3,g4⟩:=Wp h
  rw [Oyez.st_eq]
  unfold Xb at g1 g3
  rw [g1,g2,g3,g4]
 rw [e]
 refine ⟨fun h=>?_,fun h h'=>?_,fun h h'=>?_⟩
 ·rw [if_pos]
  rcases h with ⟨g1,g2⟩ | ⟨g1,g2⟩
  ·have:c.old.isEmpty=false:=by simpa using g2
   simp [g1,this]
  ·have:c.new.isEmpty=false:=by simpa using g2
   simp [g1,this]
 ·obtain ⟨g1,g2⟩:=(hw h).1 h'
  rw [if_pos (by simp [g1,g2])]
 ·rw [if_neg]
  intro hc
  simp only [Bool.or_eq_true,Bool.and_eq_true,Bool.not_eq_true',beq_iff_eq,decide_eq_true_eq] at hc
  rcases hc with (⟨g1,g2⟩ | ⟨g1,g2⟩) | ⟨g1,g2⟩
  ·exact h (.inl ⟨g1,by simpa using g2⟩)
  ·exact h (.inr ⟨g1,by simpa using g2⟩)
  ·exact h' ((hw h).2 ⟨g1,g2⟩)
set_option maxHeartbeats 8000000 in
set_option maxRecDepth 8000 in
theorem Ybb (l:List Oyez.Chg) (hf:Waa l):APure Tryz.prog 39 [Wb l] (.int .i64 (Oyez.checkChg l)):=by
 refine APure.of fun σ=>?_
 refine Ua Tryz.func39 rfl (Wa Tryz.func39 (by decide) rfl) ?_
 obtain ⟨X,hX⟩:∃ X,Oyez.checkChg l=X:=⟨_,rfl⟩
 rw [hX]
 unfold Oyez.checkChg at hX
 by_cases h80:80<l.length
 ·have h80':(80:Int)<(l.length:Int):=by omega
  rw [if_pos h80] at hX
  subst hX
  simp [Tryz.ntmps39,h80']
 ·have h80':¬ (80:Int)<(l.length:Int):=by omega
  rw [if_neg h80] at hX
  simp [Tryz.ntmps39,h80']
  refine Yc (fun env σ'=>∃ (u:List AV) (i:Nat) (g:Za),env={ t:=u }∧u.length=102∧tg u 0=Wb l∧tg u 3=.int .i64 i∧σ'=σ++g∧i≤l.length∧Oyez.checkChgFrom (Vo l i) (l.drop i)=X)
   (fun env _=>match tg env.t 3 with | .int _ i=>l.length - i.toNat | _=>0) ⟨_,0,[],rfl,by simp,by simp,by simp,by simp,by omega,by simpa [Vo] using hX⟩ ?_
  rintro env σ' ⟨u,i,g,rfl,hl,g0,g3,rfl,hi,hd⟩
  rcases Qzn i l.length with hlt | hge
  ·have hlt':(i:Int)<(l.length:Int):=by omega
   have hdr:l.drop i=l[i]::l.drop (i+1):=List.drop_eq_getElem_cons hlt
   have hs:=hf _ (List.getElem_mem hlt)
   have hprev:∀ h:0<i,Vo l i=some (l[i - 1]'(by omega)).place:=fun h=>by
    unfold Vo
    rw [if_neg (by omega),Qze (by omega)]
    rfl
   have hprev2:Vo l (i+1)=some l[i].place:=by
    unfold Vo
    rw [if_neg (by omega),Nat.add_sub_cancel,Qze hlt]
    rfl
   rw [hdr,Oyez.checkChgFrom] at hd
   obtain ⟨c,hc⟩:∃ c,l[i]=c:=⟨_,rfl⟩
   rw [hc] at hd hs hprev2
   simp [hl,g0,g3,hlt',hlt,hc]
   refine (Ucn c.kind c.number).use ?_
   by_cases h0:Oyez.placeErr c.kind c.number=0
   case neg =>
    have e:Oyez.chgErr c=Oyez.placeErr c.kind c.number:=by unfold Oyez.chgErr;rw [if_pos (by simpa using h0)]
    rw [e,if_pos (by simpa using h0)] at hd
    subst hd
    simp [hl,g0,g3,hlt',hlt,hc,h0]
   obtain ⟨p1,p2,p3,p4⟩:=Ubc h0
   simp [hl,g0,g3,hlt',hlt,hc,h0]
   refine (Vbf c.kind c.number c.old p1 p3 (by omega) (by omega) (by omega)).use ?_
   by_cases h1:Oyez.wordsErr c.kind c.number c.old=0
   case neg =>
    have e:Oyez.chgErr c=Oyez.wordsErr c.kind c.number c.old:=by unfold Oyez.chgErr;rw [if_neg (by simp [h0]),if_pos (by simpa using h1)]
    rw [e,if_pos (by simpa using h1)] at hd
    subst hd
    simp [hl,g0,g3,hlt',hlt,hc,h0,h1]
   simp [hl,g0,g3,hlt',hlt,hc,h0,h1]
   refine (Vbf c.kind c.number c.new p1 p3 (by omega) (by omega) (by omega)).use ?_
   by_cases h2:Oyez.wordsErr c.kind c.number c.new=0
   case neg =>
    have e:Oyez.chgErr c=Oyez.wordsErr c.kind c.number c.new:=by unfold Oyez.chgErr;rw [if_neg (by simp [h0]),if_neg (by simp [h1]),if_pos (by simpa using h2)]
    rw [e,if_pos (by simpa using h2)] at hd
    subst hd
    simp [hl,g0,g3,hlt',hlt,hc,h0,h1,h2]
   obtain ⟨r1,r2,r3⟩:=Xbs h0 h1 h2
   by_cases hbad:Wv c
   ·rw [r1 hbad,if_pos (by decide)] at hd
    subst hd
    rcases hbad with ⟨b1,b2⟩ | ⟨b1,b2⟩
    ·have b3:0<c.old.length:=List.length_pos_iff.2 b2
     simp [hl,g0,g3,hlt',hlt,hc,h0,h1,h2,b1,b2,b3]
    ·have b3:0<c.new.length:=List.length_pos_iff.2 b2
     cases k1:c.had with
     | true=>simp [hl,g0,g3,hlt',hlt,hc,h0,h1,h2,b1,b2,b3,k1]
     | false =>
      by_cases k2:0<c.old.length
      ·have k3:c.old≠[]:=fun e=>by rw [e] at k2;simp at k2
       simp [hl,g0,g3,hlt',hlt,hc,h0,h1,h2,b1,b2,b3,k1,k2,k3]
      ·have k3:c.old=[]:=List.eq_nil_of_length_eq_zero (by omega)
       simp [hl,g0,g3,hlt',hlt,hc,h0,h1,h2,b1,b2,b3,k1,k2,k3]
   ·have hal:=Uah c.was c.now (by rw [(Wp hbad).1];omega)
    obtain ⟨w1,w2,w3,w4⟩:=Wp hbad
    rw [w1,w2,w3,w4] at hal
    have r2':=r2 hbad
    have r3':=r3 hbad
    unfold Wv at hbad
    rw [not_or] at hbad
    cases k1:c.had<;>cases k2:c.has
    ·have z1:c.old=[]:=Classical.byContradiction fun e=>hbad.1 ⟨k1,e⟩
     rw [z1] at h1
     have z2:c.new=[]:=Classical.byContradiction fun e=>hbad.2 ⟨k2,e⟩
     rw [z2] at h2
     simp [k1,k2,z1,z2] at hal
     simp [hl,g0,g3,hlt',hlt,hc,h0,h1,h2,k1,k2,z1,z2]
     refine APure.use hal ?_
     by_cases hwn:c.was=c.now
     ·rw [r2' hwn,if_pos (by decide)] at hd
      subst hd
      simp [hl,g0,g3,hlt',hlt,hc,h0,h1,h2,k1,k2,z1,z2,hwn]
     ·rw [r3' hwn,if_neg (by decide)] at hd
      simp [hl,g0,g3,hlt',hlt,hc,h0,h1,h2,k1,k2,z1,z2,hwn]
      refine Zg mixed (by kernel_rfl) ?_
      cases i with
      | zero =>
       have hx1:IntKind.i64.wrap 1=1:=w64 (by omega) (by omega)
       simp [hl,g0,g3,hx1,hc]
       refine ⟨⟨1,rfl,hlt,?_⟩,by omega⟩
       rw [hprev2]
       simpa [Vo] using hd
      | succ j =>
       have hz':(0:Int)<(j:Int)+1:=by omega
       have hx:=w64 (n:=(j:Int)) (by omega) (by omega)
       have hx2:=w64 (n:=(j:Int)+1+1) (by omega) (by omega)
       have hj:j<l.length:=by omega
       have hj0:(0:Int)≤(j:Int)+1:=by omega
       have hj1:(j:Int)+1<(l.length:Int):=by omega
       have hp:=hprev (by omega)
       rw [hp] at hd
       simp at hd
       simp [hl,g0,g3,hz',hlt,hx,hj,hj0,hj1,hc,k1,k2,z1,z2]
       refine Wq (Uai _ _ _ _) ?_
       cases hb:l[j].place.lt c.place with
       | true =>
        simp [hl,g0,g3,hx2,hc,show ((⟨l[j].kind,l[j].number⟩:Oyez.Place).lt ⟨c.kind,c.number⟩)=true from hb]
        refine ⟨⟨j+1+1,by simp,hlt,?_⟩,by omega⟩
        rw [hprev2,← hd]
        simp [hb]
       | false =>
        simp [hl,g0,g3,hc,show ((⟨l[j].kind,l[j].number⟩:Oyez.Place).lt ⟨c.kind,c.number⟩)=false from hb]
        simpa [hb] using hd
    ·have z1:c.old=[]:=Classical.byContradiction fun e=>hbad.1 ⟨k1,e⟩
     rw [z1] at h1
     have z2:True:=trivial
     simp [k1,k2,z1,z2] at hal
     simp [hl,g0,g3,hlt',hlt,hc,h0,h1,h2,k1,k2,z1,z2]
     refine APure.use hal ?_
     by_cases hwn:c.was=c.now
     ·rw [r2' hwn,if_pos (by decide)] at hd
      subst hd
      simp [hl,g0,g3,hlt',hlt,hc,h0,h1,h2,k1,k2,z1,z2,hwn]
     ·rw [r3' hwn,if_neg (by decide)] at hd
      simp [hl,g0,g3,hlt',hlt,hc,h0,h1,h2,k1,k2,z1,z2,hwn]
      refine Zg mixed (by kernel_rfl) ?_
      cases i with
      | zero =>
       have hx1:IntKind.i64.wrap 1=1:=w64 (by omega) (by omega)
       simp [hl,g0,g3,hx1,hc]
       refine ⟨⟨1,rfl,hlt,?_⟩,by omega⟩
       rw [hprev2]
       simpa [Vo] using hd
      | succ j =>
       have hz':(0:Int)<(j:Int)+1:=by omega
       have hx:=w64 (n:=(j:Int)) (by omega) (by omega)
       have hx2:=w64 (n:=(j:Int)+1+1) (by omega) (by omega)
       have hj:j<l.length:=by omega
       have hj0:(0:Int)≤(j:Int)+1:=by omega
       have hj1:(j:Int)+1<(l.length:Int):=by omega
       have hp:=hprev (by omega)
       rw [hp] at hd
       simp at hd
       simp [hl,g0,g3,hz',hlt,hx,hj,hj0,hj1,hc,k1,k2,z1,z2]
       refine Wq (Uai _ _ _ _) ?_
       cases hb:l[j].place.lt c.place with
       | true =>
        simp [hl,g0,g3,hx2,hc,show ((⟨l[j].kind,l[j].number⟩:Oyez.Place).lt ⟨c.kind,c.number⟩)=true from hb]
        refine ⟨⟨j+1+1,by simp,hlt,?_⟩,by omega⟩
        rw [hprev2,← hd]
        simp [hb]
       | false =>
        simp [hl,g0,g3,hc,show ((⟨l[j].kind,l[j].number⟩:Oyez.Place).lt ⟨c.kind,c.number⟩)=false from hb]
        simpa [hb] using hd
    ·have z1:True:=trivial
     have z2:c.new=[]:=Classical.byContradiction fun e=>hbad.2 ⟨k2,e⟩
     rw [z2] at h2
     simp [k1,k2,z1,z2] at hal
     simp [hl,g0,g3,hlt',hlt,hc,h0,h1,h2,k1,k2,z1,z2]
     refine APure.use hal ?_
     by_cases hwn:c.was=c.now
     ·rw [r2' hwn,if_pos (by decide)] at hd
      subst hd
      simp [hl,g0,g3,hlt',hlt,hc,h0,h1,h2,k1,k2,z1,z2,hwn]
     ·rw [r3' hwn,if_neg (by decide)] at hd
      simp [hl,g0,g3,hlt',hlt,hc,h0,h1,h2,k1,k2,z1,z2,hwn]
      refine Zg mixed (by kernel_rfl) ?_
      cases i with
      | zero =>
       have hx1:IntKind.i64.wrap 1=1:=w64 (by omega) (by omega)
       simp [hl,g0,g3,hx1,hc]
       refine ⟨⟨1,rfl,hlt,?_⟩,by omega⟩
       rw [hprev2]
       simpa [Vo] using hd
      | succ j =>
       have hz':(0:Int)<(j:Int)+1:=by omega
       have hx:=w64 (n:=(j:Int)) (by omega) (by omega)
       have hx2:=w64 (n:=(j:Int)+1+1) (by omega) (by omega)
       have hj:j<l.length:=by omega
       have hj0:(0:Int)≤(j:Int)+1:=by omega
       have hj1:(j:Int)+1<(l.length:Int):=by omega
       have hp:=hprev (by omega)
       rw [hp] at hd
       simp at hd
       simp [hl,g0,g3,hz',hlt,hx,hj,hj0,hj1,hc,k1,k2,z1,z2]
       refine Wq (Uai _ _ _ _) ?_
       cases hb:l[j].place.lt c.place with
       | true =>
        simp [hl,g0,g3,hx2,hc,show ((⟨l[j].kind,l[j].number⟩:Oyez.Place).lt ⟨c.kind,c.number⟩)=true from hb]
        refine ⟨⟨j+1+1,by simp,hlt,?_⟩,by omega⟩
        rw [hprev2,← hd]
        simp [hb]
       | false =>
        simp [hl,g0,g3,hc,show ((⟨l[j].kind,l[j].number⟩:Oyez.Place).lt ⟨c.kind,c.number⟩)=false from hb]
        simpa [hb] using hd
    ·have z1:True:=trivial
     have z2:True:=trivial
     simp [k1,k2,z1,z2] at hal
     simp [hl,g0,g3,hlt',hlt,hc,h0,h1,h2,k1,k2,z1,z2]
     refine APure.use hal ?_
     by_cases hwn:c.was=c.now
     ·rw [r2' hwn,if_pos (by decide)] at hd
      subst hd
      simp [hl,g0,g3,hlt',hlt,hc,h0,h1,h2,k1,k2,z1,z2,hwn]
     ·rw [r3' hwn,if_neg (by decide)] at hd
      simp [hl,g0,g3,hlt',hlt,hc,h0,h1,h2,k1,k2,z1,z2,hwn]
      refine Zg mixed (by kernel_rfl) ?_
      cases i with
      | zero =>
       have hx1:IntKind.i64.wrap 1=1:=w64 (by omega) (by omega)
       simp [hl,g0,g3,hx1,hc]
       refine ⟨⟨1,rfl,hlt,?_⟩,by omega⟩
       rw [hprev2]
       simpa [Vo] using hd
      | succ j =>
       have hz':(0:Int)<(j:Int)+1:=by omega
       have hx:=w64 (n:=(j:Int)) (by omega) (by omega)
       have hx2:=w64 (n:=(j:Int)+1+1) (by omega) (by omega)
       have hj:j<l.length:=by omega
       have hj0:(0:Int)≤(j:Int)+1:=by omega
       have hj1:(j:Int)+1<(l.length:Int):=by omega
       have hp:=hprev (by omega)
       rw [hp] at hd
       simp at hd
       simp [hl,g0,g3,hz',hlt,hx,hj,hj0,hj1,hc,k1,k2,z1,z2]
       refine Wq (Uai _ _ _ _) ?_
       cases hb:l[j].place.lt c.place with
       | true =>
        simp [hl,g0,g3,hx2,hc,show ((⟨l[j].kind,l[j].number⟩:Oyez.Place).lt ⟨c.kind,c.number⟩)=true from hb]
        refine ⟨⟨j+1+1,by simp,hlt,?_⟩,by omega⟩
        rw [hprev2,← hd]
        simp [hb]
       | false =>
        simp [hl,g0,g3,hc,show ((⟨l[j].kind,l[j].number⟩:Oyez.Place).lt ⟨c.kind,c.number⟩)=false from hb]
        simpa [hb] using hd
  ·have hge':¬ (i:Int)<(l.length:Int):=by omega
   rw [List.drop_eq_nil_of_le hge,Oyez.checkChgFrom] at hd
   simp [hl,g0,g3,hge',← hd]
end Ab
namespace Ab
open Go Go.RowKit Go.Proofs
attribute [local irreducible] aws awp aw1 Og Om Oc Oa Ogd Ov Ot awd Ub awh Xc Ogh Ohd awl Ogl Ohl awv Ogv Ohv Zc Wc QFn Zd QRo QBe ACode AYield
theorem Ws (c:Oyez.Chg):APure Tryz.prog 109 [Ze c] (Xd c.place):=by
 refine APure.of fun σ=>?_
 refine Ua Tryz.func109 rfl (Wa Tryz.func109 (by decide) rfl) ?_
 simp [Tryz.ntmps109,Oyez.Chg.place]
theorem Xd6 (c:Oyez.Chg):APure Tryz.prog 111 [Ze c] (.agg [.bool c.had,Zb c.old]):=by
 refine APure.of fun σ=>?_
 refine Ua Tryz.func111 rfl (Wa Tryz.func111 (by decide) rfl) ?_
 simp [Tryz.ntmps111]
theorem Zd7 (c:Oyez.Chg):APure Tryz.prog 112 [Ze c] (.agg [.bool c.has,Zb c.new]):=by
 refine APure.of fun σ=>?_
 refine Ua Tryz.func112 rfl (Wa Tryz.func112 (by decide) rfl) ?_
 simp [Tryz.ntmps112]
theorem Wai {c:Oyez.Chg} (h:¬ Wv c):APure Tryz.prog 111 [Ze c] (Ue c.was):=by
 obtain ⟨w1,w2,w3,w4⟩:=Wp h
 unfold Ue
 rw [w1,w2]
 exact Xd6 c
theorem Vai {c:Oyez.Chg} (h:¬ Wv c):APure Tryz.prog 112 [Ze c] (Ue c.now):=by
 obtain ⟨w1,w2,w3,w4⟩:=Wp h
 unfold Ue
 rw [w3,w4]
 exact Zd7 c
set_option maxHeartbeats 8000000 in
set_option maxRecDepth 8000 in
theorem Zcs (c:Oyez.Chg) (hs:(Yh c.old≤2^38∧c.old.length≤2^38)∧Yh c.new≤2^38∧c.new.length≤2^38):APure Tryz.prog 140 [Ze c] (.int .i64 (Oyez.chgErr c)):=by
 refine APure.of fun σ=>?_
 refine Ua Tryz.func140 rfl (Wa Tryz.func140 (by decide) rfl) ?_
 obtain ⟨X,hX⟩:∃ X,Oyez.chgErr c=X:=⟨_,rfl⟩
 rw [hX]
 simp [Tryz.ntmps140]
 refine (Ws c).use ?_
 simp
 refine (Vbx c.place).use ?_
 have hpe:Oyez.placeErr c.place.kind c.place.number=Oyez.placeErr c.kind c.number:=rfl
 rw [hpe]
 by_cases h0:Oyez.placeErr c.kind c.number=0
 case neg =>
  have e:Oyez.chgErr c=Oyez.placeErr c.kind c.number:=by unfold Oyez.chgErr;rw [if_pos (by simpa using h0)]
  rw [← hX,e]
  simp [h0]
 simp [h0]
 refine Yc (fun env σ'=>∃ (u:List AV) (i:Nat),env={ t:=u }∧u.length=61∧tg u 1=.ptr σ.length 0∧tg u 17=.arr 1 (σ.length+1) 0 2∧tg u 18=.int .i64 2∧tg u 19=.int .i64 i∧σ'=σ++[.cells (Wd c),.cells [Zb c.old,Zb c.new]]∧i≤2∧(0<i→Oyez.wordsErr c.kind c.number c.old=0)∧(1<i→Oyez.wordsErr c.kind c.number c.new=0))
  (fun env _=>match tg env.t 19 with | .int _ i=>2 - i.toNat | _=>0) ⟨_,0,rfl,by simp,by simp,by simp,by simp,by simp,by simp [Wd],by omega,fun h=>by omega,fun h=>by omega⟩ ?_
 rintro env _ ⟨u,i,rfl,hl,g1,g17,g18,g19,rfl,hi,h1,h2⟩
 have w1:=w64 (n:=(1:Int)) (by omega) (by omega)
 have w2:=w64 (n:=(2:Int)) (by omega) (by omega)
 match i,hi with
 | 0,_ =>
  simp [hl,g1,g17,g18,g19,w1,w2,Wd]
  refine (Vbq ⟨c.kind,c.number,c.old⟩ h0 hs.1.1 hs.1.2).use ?_
  simp only
  by_cases k1:Oyez.wordsErr c.kind c.number c.old=0
  case neg =>
   have e:Oyez.chgErr c=Oyez.wordsErr c.kind c.number c.old:=by unfold Oyez.chgErr;rw [if_neg (by simp [h0]),if_pos (by simpa using k1)]
   rw [← hX,e]
   simp [hl,g1,g17,g18,g19,w1,w2,k1,Wd]
  simp [hl,g1,g17,g18,g19,w1,w2,k1,Wd]
  exact ⟨1,rfl,by omega,fun h=>by omega⟩
 | 1,_ =>
  have k1:=h1 (by omega)
  simp [hl,g1,g17,g18,g19,w1,w2,k1,Wd]
  refine (Vbq ⟨c.kind,c.number,c.new⟩ h0 hs.2.1 hs.2.2).use ?_
  simp only
  by_cases k2:Oyez.wordsErr c.kind c.number c.new=0
  case neg =>
   have e:Oyez.chgErr c=Oyez.wordsErr c.kind c.number c.new:=by unfold Oyez.chgErr;rw [if_neg (by simp [h0]),if_neg (by simp [k1]),if_pos (by simpa using k2)]
   rw [← hX,e]
   simp [hl,g1,g17,g18,g19,w1,w2,k1,k2,Wd]
  simp [hl,g1,g17,g18,g19,w1,w2,k1,k2,Wd]
  exact ⟨2,rfl,by omega⟩
 | 2,_ =>
  have k1:=h1 (by omega)
  have k2:=h2 (by omega)
  obtain ⟨r1,r2,r3⟩:=Xbs h0 k1 k2
  simp [hl,g1,g17,g18,g19,w1,w2]
  refine Zg mixed (by kernel_rfl) ?_
  by_cases hbad:Wv c
  ·rw [← hX,r1 hbad]
   rcases hbad with ⟨b1,b2⟩ | ⟨b1,b2⟩
   ·have b3:0<c.old.length:=List.length_pos_iff.2 b2
    simp [hl,g1,g17,g18,g19,b1,b2,b3,Wd]
   ·have b3:0<c.new.length:=List.length_pos_iff.2 b2
    cases q1:c.had with
    | true=>simp [hl,g1,g17,g18,g19,b1,b2,b3,q1,Wd]
    | false =>
     by_cases q2:0<c.old.length
     ·have q3:c.old≠[]:=fun e=>by rw [e] at q2;simp at q2
      simp [hl,g1,g17,g18,g19,b1,b2,b3,q1,q2,q3,Wd]
     ·have q3:c.old=[]:=List.eq_nil_of_length_eq_zero (by omega)
      simp [hl,g1,g17,g18,g19,b1,b2,b3,q1,q2,q3,Wd]
  ·have hal:=Zad c.was c.now (by rw [(Wp hbad).1];omega)
   have hwas:=Wai hbad
   have hnow:=Vai hbad
   have r2':=r2 hbad
   have r3':=r3 hbad
   unfold Wv at hbad
   rw [not_or] at hbad
   cases q1:c.had<;>cases q2:c.has
   ·have z1:c.old=[]:=Classical.byContradiction fun e=>hbad.1 ⟨q1,e⟩
    have z2:c.new=[]:=Classical.byContradiction fun e=>hbad.2 ⟨q2,e⟩
    have hc:Ze c=.agg [.int .i64 c.kind,.int .i64 c.number,.bool c.had,.bool c.has,Zb c.old,Zb c.new]:=rfl
    rw [q1,q2] at hc
    try simp only [z1,z2] at hc
    rw [hc] at hwas hnow
    simp [hl,g1,g17,g18,g19,q1,q2,z1,z2,Wd]
    refine Vd (by simpa using hwas) ?_
    refine Vd (by simpa using hnow) ?_
    refine Vd hal ?_
    by_cases hwn:c.was=c.now
    ·rw [← hX,r2' hwn]
     simp [hl,g1,g17,g18,g19,q1,q2,z1,z2,hwn,Wd]
    ·rw [← hX,r3' hwn]
     simp [hl,g1,g17,g18,g19,q1,q2,z1,z2,hwn,Wd]
   ·have z1:c.old=[]:=Classical.byContradiction fun e=>hbad.1 ⟨q1,e⟩
    have z2:True:=trivial
    have hc:Ze c=.agg [.int .i64 c.kind,.int .i64 c.number,.bool c.had,.bool c.has,Zb c.old,Zb c.new]:=rfl
    rw [q1,q2] at hc
    try simp only [z1,z2] at hc
    rw [hc] at hwas hnow
    simp [hl,g1,g17,g18,g19,q1,q2,z1,z2,Wd]
    refine Vd (by simpa using hwas) ?_
    refine Vd (by simpa using hnow) ?_
    refine Vd hal ?_
    by_cases hwn:c.was=c.now
    ·rw [← hX,r2' hwn]
     simp [hl,g1,g17,g18,g19,q1,q2,z1,z2,hwn,Wd]
    ·rw [← hX,r3' hwn]
     simp [hl,g1,g17,g18,g19,q1,q2,z1,z2,hwn,Wd]
   ·have z1:True:=trivial
    have z2:c.new=[]:=Classical.byContradiction fun e=>hbad.2 ⟨q2,e⟩
    have hc:Ze c=.agg [.int .i64 c.kind,.int .i64 c.number,.bool c.had,.bool c.has,Zb c.old,Zb c.new]:=rfl
    rw [q1,q2] at hc
    try simp only [z1,z2] at hc
    rw [hc] at hwas hnow
    simp [hl,g1,g17,g18,g19,q1,q2,z1,z2,Wd]
    refine Vd (by simpa using hwas) ?_
    refine Vd (by simpa using hnow) ?_
    refine Vd hal ?_
    by_cases hwn:c.was=c.now
    ·rw [← hX,r2' hwn]
     simp [hl,g1,g17,g18,g19,q1,q2,z1,z2,hwn,Wd]
    ·rw [← hX,r3' hwn]
     simp [hl,g1,g17,g18,g19,q1,q2,z1,z2,hwn,Wd]
   ·have z1:True:=trivial
    have z2:True:=trivial
    have hc:Ze c=.agg [.int .i64 c.kind,.int .i64 c.number,.bool c.had,.bool c.has,Zb c.old,Zb c.new]:=rfl
    rw [q1,q2] at hc
    try simp only [z1,z2] at hc
    rw [hc] at hwas hnow
    simp [hl,g1,g17,g18,g19,q1,q2,z1,z2,Wd]
    refine Vd (by simpa using hwas) ?_
    refine Vd (by simpa using hnow) ?_
    refine Vd hal ?_
    by_cases hwn:c.was=c.now
    ·rw [← hX,r2' hwn]
     simp [hl,g1,g17,g18,g19,q1,q2,z1,z2,hwn,Wd]
    ·rw [← hX,r3' hwn]
     simp [hl,g1,g17,g18,g19,q1,q2,z1,z2,hwn,Wd]
set_option maxHeartbeats 2000000 in
set_option maxRecDepth 8000 in
theorem Zay (l:List Oyez.Chg) (hf:Waa l):APure Tryz.prog 72 [Wb l] (.int .i64 (Oyez.checkChg l)):=by
 refine APure.of fun σ=>?_
 refine Ua Tryz.func72 rfl (Wa Tryz.func72 (by decide) rfl) ?_
 obtain ⟨X,hX⟩:∃ X,Oyez.checkChg l=X:=⟨_,rfl⟩
 rw [hX]
 unfold Oyez.checkChg at hX
 by_cases h80:80<l.length
 ·have h80':(80:Int)<(l.length:Int):=by omega
  rw [if_pos h80] at hX
  subst hX
  simp [Tryz.ntmps72,h80']
 ·have h80':¬ (80:Int)<(l.length:Int):=by omega
  rw [if_neg h80] at hX
  simp [Tryz.ntmps72,h80']
  refine Yc (fun env σ'=>∃ (u:List AV) (i:Nat) (g:Za),env={ t:=u }∧u.length=36∧tg u 0=Wb l∧tg u 9=Wb l∧tg u 10=.int .i64 l.length∧tg u 11=.int .i64 i∧σ'=σ++g∧i≤l.length∧Oyez.checkChgFrom (Vo l i) (l.drop i)=X)
   (fun env _=>match tg env.t 11 with | .int _ i=>l.length - i.toNat | _=>0) ⟨_,0,[],rfl,by simp,by simp,by simp,by simp,by simp,by simp,by omega,by simpa [Vo] using hX⟩ ?_
  rintro env σ' ⟨u,i,g,rfl,hl,g0,g9,g10,g11,rfl,hi,hd⟩
  rcases Qzn i l.length with hlt | hge
  ·have hlt':(i:Int)<(l.length:Int):=by omega
   have hdr:l.drop i=l[i]::l.drop (i+1):=List.drop_eq_getElem_cons hlt
   have hs:=hf _ (List.getElem_mem hlt)
   rw [hdr,Oyez.checkChgFrom] at hd
   simp [hl,g0,g9,g10,g11,hlt',hlt]
   refine (Zcs l[i] hs).use ?_
   by_cases h0:Oyez.chgErr l[i]=0
   ·rw [if_neg (by simpa using h0)] at hd
    simp [hl,g0,g9,g10,g11,h0]
    refine Zg mixed (by kernel_rfl) ?_
    cases i with
    | zero =>
     have hx1:IntKind.i64.wrap 1=1:=w64 (by omega) (by omega)
     simp [hl,g0,g9,g10,g11,hx1]
     refine ⟨⟨1,rfl,hlt,?_⟩,by omega⟩
     simpa [Vo,Qze hlt] using hd
    | succ j =>
     have hz':(0:Int)<(j:Int)+1:=by omega
     have hx:=w64 (n:=(j:Int)) (by omega) (by omega)
     have hx2:=w64 (n:=(j:Int)+1+1) (by omega) (by omega)
     have hj:j<l.length:=by omega
     have hp:Vo l (j+1)=some l[j].place:=by simp [Vo,hj]
     rw [hp] at hd
     simp [hl,g0,g9,g10,g11,hz',hlt,hx,hj]
     refine Vd (Ws l[j]) ?_
     refine Vd (Ws l[j+1]) ?_
     refine Vd (Ua4 l[j].place l[j+1].place) ?_
     have hneg:=Uaq l[j].place l[j+1].place
     generalize Vl l[j].place l[j+1].place=q at hneg
     cases hb:l[j].place.lt l[j+1].place with
     | true =>
      have hq:¬ (0:Int)≤q:=by have:=hneg.2 hb;omega
      simp [hl,g0,g9,g10,g11,hx2,hq]
      refine ⟨⟨j+1+1,by simp,hlt,?_⟩,by omega⟩
      have hp2:Vo l (j+1+1)=some l[j+1].place:=by simp [Vo,hlt]
      rw [hp2,← hd]
      simp [hb]
     | false =>
      have hq:(0:Int)≤q:=by
       rcases Int.lt_or_le q 0 with h | h
       ·have:=hneg.1 h;rw [hb] at this;cases this
       ·exact h
      simp [hl,g0,g9,g10,g11,hq]
      simpa [hb] using hd
   ·rw [if_pos (by simpa using h0)] at hd
    subst hd
    simp [hl,g0,g9,g10,g11,h0]
  ·have hge':¬ (i:Int)<(l.length:Int):=by omega
   rw [List.drop_eq_nil_of_le hge,Oyez.checkChgFrom] at hd
   simp [hl,g0,g9,g10,g11,hge',hd]
end Ab
